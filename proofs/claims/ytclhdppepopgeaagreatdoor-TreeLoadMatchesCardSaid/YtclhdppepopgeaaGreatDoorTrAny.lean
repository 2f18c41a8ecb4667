/- strings.IndexAny and ContainsAny of the two bytes 0 and 47, for every text: where the first of them stands. -/
import Derived.Test.YtclhdppepopgeaaGreatDoorTrRune
import Derived.Shelf.Strings.IndexAnyAll
import Derived.Deep.LoopGhost
import Derived.Lib.QuoteLoop
namespace Go.Proofs.YtclhdppepopgeaaGreatDoor
open Go.RowKit

theorem zn_ascii : ∀ (j : Nat) b, zn.data.toList[j]? = some b → b.toNat < 128 := by
  intro j b h
  match j, h with
  | 0, h => cases h; decide
  | 1, h => cases h; decide
theorem decode_rune_valid (s : ByteArray) (i : Nat) (h : i < s.size) (h1 : 128 ≤ s[i].toNat) : Utf8.valid ((Utf8.decode s i).1 : Int) = true := by
  have hg : (s.get! i).toNat = s[i].toNat := by simp [ByteArray.get!, getElem!_pos, h]; rfl
  rw [Lib.decode_at]
  unfold Lib.decodeN Utf8.valid
  repeat' split
  all_goals (simp; try omega)

/-- the bytes of a rune beyond ASCII are none of ASCII -/
theorem rune_bytes (s : ByteArray) (i : Nat) (h : i < s.size) (h1 : 128 ≤ s[i].toNat) : i + (Utf8.decode s i).2 ≤ s.size ∧ ∀ j, i ≤ j → j < i + (Utf8.decode s i).2 → ∃ hj : j < s.size, 128 ≤ s[j].toNat := by
  have hc := Lib.decodeN_conts (s.size - i) (s.get! i).toNat (s.get! (i + 1)).toNat (s.get! (i + 2)).toNat (s.get! (i + 3)).toNat
  have hn := Lib.decodeN_width_le (s.size - i) (s.get! i).toNat (s.get! (i + 1)).toNat (s.get! (i + 2)).toNat (s.get! (i + 3)).toNat (by omega)
  rw [← Lib.decode_at] at hc hn
  refine ⟨by omega, fun j hj1 hj2 => ?_⟩
  have hjs : j < s.size := by omega
  refine ⟨hjs, ?_⟩
  have hg : ∀ k (hk : k < s.size), (s.get! k).toNat = s[k].toNat := fun k hk => by simp [ByteArray.get!, getElem!_pos, hk]; rfl
  obtain ⟨k, rfl⟩ : ∃ k, j = i + k := ⟨j - i, by omega⟩
  match k with
  | 0 => exact h1
  | 1 => have := hc.1 (by omega); rw [hg _ hjs] at this; omega
  | 2 => have := hc.2.1 (by omega); rw [hg _ hjs] at this; omega
  | 3 => have := hc.2.2.1 (by omega); rw [hg _ hjs] at this; omega
  | k + 4 => exfalso; omega

theorem noAny_more {s : ByteArray} {i n : Nat} (h : Lib.NoAny s.data.toList zn.data.toList i) (hb : ∀ j, i ≤ j → j < n → ∃ hj : j < s.size, 128 ≤ s[j].toNat) : Lib.NoAny s.data.toList zn.data.toList n := by
  intro j b hj hjb
  by_cases hlt : j < i
  · exact h j b hlt hjb
  · obtain ⟨hs, h128⟩ := hb j (by omega) hj
    have : b = s[j] := by
      rw [List.getElem?_eq_getElem (by rw [size_toList]; exact hs)] at hjb
      exact (Option.some.inj hjb).symm
    subst this
    have h0 : ¬ s[j] = 0 := fun e => by rw [e] at h128; simp at h128
    have h10 : ¬ s[j] = 47 := fun e => by rw [e] at h128; simp at h128
    simp [h0, h10]

set_option maxRecDepth 100000 in
set_option maxHeartbeats 3200000 in
theorem indexAny_short (s : ByteArray) (w : World) (h8 : s.size ≤ 8) :
    Calls Tryz.prog 79 #[.string s, .string zn] w fun e w' => e = .returned (.int .i64 (Lib.indexAny s.data.toList zn.data.toList)) ∧ Below w.heap.size w w' := by
  have h8z : decide ((8 : Int) < (s.size : Int)) = false := decide_eq_false (by omega)
  go_enter Tryz.func79, Tryz.ntmps79
  go_wp2_with (go_at_call 103; refine (Tryz.strings_shouldUseASCIISet _ _).mono ?_; rintro e w' ⟨rfl, hw⟩; rw [hw, h8z])
  go_loopw [9, 10] (fun _ _ wx => ∃ i : Nat, i ≤ s.size ∧ Below w.heap.size w wx ∧ wx.heap[w.heap.size]? = some (.stringIter s i) ∧ Hid (Lib.NoAny s.data.toList zn.data.toList i)) (fun _ _ wx => s.size - wx.iterPos w.heap.size)
  case atStart => exact ⟨0, Nat.zero_le _, (Below.refl _ _).alloc (Nat.le_refl _) _, World.iter_heap _ _ _, Lib.NoAny.zero _ _⟩
  case round =>
    obtain ⟨i, hi, hbw, hk, HN⟩ := hrel
    have hip : wr.iterPos w.heap.size = i := by simp [World.iterPos, hk]
    by_cases hlt : i < s.size
    · by_cases hx : s[i].toNat < 128
      · have hnx := fun ty => Lib.run_next_ascii_at (P := Tryz.prog) wr w.heap.size s i ty hk hlt hx
        have hw2 : Below w.heap.size w (wr.iterAt w.heap.size s (i + 1)) := Lib.below_iterAt hbw (Nat.le_refl _) _ _
        have hk2 := Lib.iterAt_heap wr w.heap.size s i (i + 1) hk
        have hxl : s.data.toList[i]? = some s[i] := by rw [List.getElem?_eq_getElem (by rw [size_toList]; exact hlt)]; rfl
        have hcon := Lib.contains_iff_indexByte zn.data.toList s[i]
        have hback : ((s[i].toNat : Int)).toNat.toUInt8 = s[i] := by simp
        cases hin : zn.data.toList.contains s[i]
        · have HN2 := Lib.hid (HN.out.succ hxl hin)
          rw [hin] at hcon
          have hneg : ¬ (0 : Int) ≤ Lib.indexByte zn.data.toList s[i] := of_decide_eq_false hcon.symm
          have hip2 : (wr.iterAt w.heap.size s (i + 1)).iterPos w.heap.size = i + 1 := by simp [World.iterPos, hk2]
          have HM := Lib.hid (show s.size - (wr.iterAt w.heap.size s (i + 1)).iterPos w.heap.size < s.size - wr.iterPos w.heap.size by omega)
          clear hcon hin hxl hip hip2 hk
          have HB := Lib.hid hback
          clear hback
          go_wp2_with (go_at_call 102; refine (Tryz.strings_IndexRune_ascii _ _ _ (by omega) (by omega)).mono ?_; rintro e w' ⟨rfl, hw⟩; rw [hw, HB.out])
          go_roundw
          case rel => exact ⟨i + 1, by omega, hw2, hk2, HN2⟩
          case measure => exact HM.out
        · have hfin := Lib.hid (Lib.indexAny_hit HN.out hxl hin)
          rw [hin] at hcon
          have hpos : (0 : Int) ≤ Lib.indexByte zn.data.toList s[i] := of_decide_eq_true hcon.symm
          clear hcon hin hxl hip hk
          have HB := Lib.hid hback
          clear hback
          go_wp2_with (go_at_call 102; refine (Tryz.strings_IndexRune_ascii _ _ _ (by omega) (by omega)).mono ?_; rintro e w' ⟨rfl, hw⟩; rw [hw, HB.out])
          go_ret
          exact ⟨ret_int hfin.out.symm, hw2⟩
      · have hge : 128 ≤ s[i].toNat := by omega
        have hnx := fun ty => Lib.run_next_any_at (P := Tryz.prog) wr w.heap.size s i ty hk hlt
        obtain ⟨r1, r2⟩ := decode_high s i hlt hge
        have hv := decode_rune_valid s i hlt hge
        obtain ⟨b1, b2⟩ := rune_bytes s i hlt hge
        have HN2 := Lib.hid (noAny_more HN.out b2)
        generalize hd : Utf8.decode s i = d at *
        obtain ⟨r, n⟩ := d
        simp only at r1 r2 hv b1 b2 HN2 hnx
        have hw2 : Below w.heap.size w (wr.iterAt w.heap.size s (i + n)) := Lib.below_iterAt hbw (Nat.le_refl _) _ _
        have hk2 := Lib.iterAt_heap wr w.heap.size s i (i + n) hk
        have hk3 := Lib.hid hk2
        have hlt2 := lt_of_block hk2
        have hc := Lib.hid (indexRune_high (r : Int) (by omega) hv (wr.iterAt w.heap.size s (i + n)))
        have HI := Lib.hid hip
        clear hd hip hk hk2 b2 hv
        go_wp2_with (go_at_call 102; refine hc.out.mono ?_; rintro e w1 ⟨rfl, hb1⟩)
        go_roundw
        case rel => exact ⟨i + n, b1, hw2.trans (hb1.mono hw2.size), (hb1.block _ hlt2).trans hk3.out, HN2⟩
        case measure =>
          have h1 : w1.iterPos w.heap.size = i + n := by simp [World.iterPos, (hb1.block _ hlt2).trans hk3.out]
          rw [HI.out, h1]; omega
    · have hnx := fun ty => Lib.run_next_end_at (P := Tryz.prog) wr w.heap.size s i ty hk hlt
      have hfin := Lib.hid (Lib.indexAny_none (s := s.data.toList) (chars := zn.data.toList) (by rw [size_toList, show s.size = i by omega]; exact HN.out))
      clear hk hip
      go_wp2
      go_ret
      exact ⟨ret_int hfin.out.symm, hbw⟩

theorem setInfo : (Tryz.prog.info? 164).map (fun i => (i.zero, i.size)) = some (some (.agg (Array.replicate 256 (.bool false))), 256) := by kernel_rfl

set_option maxRecDepth 1000000 in
set_option maxHeartbeats 8000000 in
theorem indexAny_long (s : ByteArray) (w : World) (h8 : 8 < s.size) (hs : s.size ≤ maxLen) :
    Calls Tryz.prog 79 #[.string s, .string zn] w fun e w' => e = .returned (.int .i64 (Lib.indexAny s.data.toList zn.data.toList)) ∧ Below w.heap.size w w' := by
  unfold maxLen at hs
  have hv := (zero_of_info setInfo).1
  have hi116 := (zero_of_info setInfo).2
  have hM := Tryz.strings_makeASCIISet hv zn w (by decide) zn_ascii
  have h8z : decide ((8 : Int) < (s.size : Int)) = true := decide_eq_true (by omega)
  generalize hS : Lib.setCells zn.data.toList = S at *
  have hsz : S.size = 256 := by rw [← hS]; exact Lib.setCells_size _
  have hone := Lib.setCells_one zn.data.toList
  rw [hS] at hone
  have hsc : (storeCells ⟨w.heap.size + 1, 0, none⟩ S.toList 0).run Tryz.prog ((w.alloc (.cells S 164)).alloc (.cells (Array.replicate 256 (.bool false)) 164)) = .ok () ((w.alloc (.cells S 164)).alloc (.cells S 164)) := by
    have := run_storeCells_new (P := Tryz.prog) (w.alloc (.cells S 164)) 164 (Array.replicate 256 (.bool false)) S (by rw [hsz]; exact hi116) (by rw [hsz, Array.size_replicate]) hone
    simpa using this
  have HC : Hid (∀ x : UInt8, ((w.alloc (.cells S 164)).alloc (.cells S 164)).cell? ⟨w.heap.size + 1, x.toNat, none⟩ = some (.bool (zn.data.toList.contains x))) := fun x => by
    rw [World.cell?_alloc_at _ _ _ _ (by simp), ← hS, Lib.setCells_at]
  have hB : Below w.heap.size w ((w.alloc (.cells S 164)).alloc (.cells S 164)) := ((Below.refl _ _).alloc (Nat.le_refl _) _).alloc (by simp) _
  clear hone hS
  go_enter Tryz.func79, Tryz.ntmps79
  go_wp2_with (first
    | (go_at_call 103; refine (Tryz.strings_shouldUseASCIISet _ _).mono ?_; rintro e w' ⟨rfl, hw⟩; rw [hw, h8z])
    | (go_at_call 104; refine hM.mono ?_; rintro e w' ⟨rfl, hw⟩; rw [hw]))
  clear hM hsc
  generalize (w.alloc (.cells S 164)).alloc (.cells S 164) = W2 at *
  go_loop [8] (fun s8 => ∃ i : Nat, i ≤ s.size ∧ s8 = .int .i64 i ∧ Hid (Lib.NoAny s.data.toList zn.data.toList i)) (fun s8 => s.size - (intOf s8).toNat)
  case atStart => exact ⟨0, Nat.zero_le _, rfl, Lib.NoAny.zero _ _⟩
  case round =>
    obtain ⟨i, hi, rfl, HN⟩ := hrel
    by_cases hlt : i < s.size
    · have hcx := HC.out s[i]
      have hxl : s.data.toList[i]? = some s[i] := by rw [List.getElem?_eq_getElem (by rw [size_toList]; exact hlt)]; rfl
      cases hin : zn.data.toList.contains s[i]
      · have HN2 := Lib.hid (HN.out.succ hxl hin)
        rw [hin] at hcx
        clear hin hxl
        go_wp2_with (go_at_call 105; refine (Tryz.asciiSet_contains _ s[i] _ _ hcx).mono ?_; rintro e w' ⟨rfl, hw⟩; rw [hw])
        go_round
        case rel => exact ⟨i + 1, by omega, by go_num, HN2⟩
        case measure => simp [intOf]; omega
      · have hfin := Lib.hid (Lib.indexAny_hit HN.out hxl hin)
        rw [hin] at hcx
        clear hin hxl
        go_wp2_with (go_at_call 105; refine (Tryz.asciiSet_contains _ s[i] _ _ hcx).mono ?_; rintro e w' ⟨rfl, hw⟩; rw [hw])
        go_ret
        exact ⟨ret_int hfin.out.symm, hB⟩
    · have hfin := Lib.hid (Lib.indexAny_none (s := s.data.toList) (chars := zn.data.toList) (by rw [size_toList, show s.size = i by omega]; exact HN.out))
      go_wp2
      go_ret
      exact ⟨ret_int hfin.out.symm, hB⟩

/-- does a text have none of the bytes 0 and 47? -/
def cleanB (l : List UInt8) : Bool := decide (Lib.indexAny l zn.data.toList < 0)

theorem indexAny_any (s : ByteArray) (w : World) (hs : s.size ≤ maxLen) :
    Calls Tryz.prog 79 #[.string s, .string zn] w fun e w' => e = .returned (.int .i64 (Lib.indexAny s.data.toList zn.data.toList)) ∧ Below w.heap.size w w' := by
  by_cases h8 : s.size ≤ 8
  · exact indexAny_short s w h8
  · exact indexAny_long s w (by omega) hs

set_option maxHeartbeats 400000 in
theorem containsAny_any (s : ByteArray) (w : World) (hs : s.size ≤ maxLen) :
    Calls Tryz.prog 58 #[.string s, .string zn] w fun e w' => e = .returned (.bool (!cleanB s.data.toList)) ∧ Below w.heap.size w w' := by
  have hfin : (!cleanB s.data.toList) = decide (0 ≤ Lib.indexAny s.data.toList zn.data.toList) := by
    unfold cleanB; rw [Bool.eq_iff_iff]; simp
  have H := Lib.hid hfin
  clear hfin
  go_enter Tryz.func58, Tryz.ntmps58
  go_wp2_with (go_at_call 79; refine (indexAny_any _ _ hs).mono ?_; rintro e w' ⟨rfl, hb⟩)
  go_ret
  exact ⟨ret_bool (by rw [H.out]), hb⟩

end Go.Proofs.YtclhdppepopgeaaGreatDoor
