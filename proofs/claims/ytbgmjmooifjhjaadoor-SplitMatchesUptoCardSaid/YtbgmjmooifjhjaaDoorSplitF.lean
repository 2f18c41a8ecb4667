/- SplitMatches, the program: Split. -/
import Derived.Test.YtbgmjmooifjhjaaDoorSplitE
namespace Go.Proofs.YtbgmjmooifjhjaaDoor
open Go.RowKit

theorem strInfo : (Tryd.prog.info? 9).map (fun i => (i.zero, i.size, i.bytes)) = some (some (.string ⟨#[]⟩), 1, 16) := by kernel_rfl
/-- the fields of a text, as texts -/
def splitL (T F : List UInt8) : List (List UInt8) := divL (inL (blankF F)) (inL (wideF F)) [] T
theorem divL_field (isB isW : UInt8 → Bool) : ∀ (n : Nat) (l part : List UInt8), l.length ≤ n → ∀ f ∈ divL isB isW part l, f.length ≤ part.length + l.length
  | n, [], part, _, f, hf => by
    rw [divL_nil] at hf
    split at hf
    · simp at hf
    · rw [List.mem_singleton.1 hf]; omega
  | 0, c :: r, _, hn, _, _ => by simp at hn
  | n + 1, c :: r, part, hn, f, hf => by
    by_cases h : isB c = true ∨ isW c = true
    · rw [divL_sep part h] at hf
      have hlt := sepE_lt (r := r) h
      rcases List.mem_append.1 hf with hf | hf
      · split at hf
        · simp at hf
        · rw [List.mem_singleton.1 hf]; omega
      · have := divL_field isB isW n _ [] (by simp only [List.length_cons] at hn hlt; omega) f hf
        simp only [List.length_nil] at this
        omega
    · rw [divL_put part h] at hf
      have := divL_field isB isW n r (part ++ [c]) (by simp at hn; omega) f hf
      simp only [List.length_append, List.length_cons, List.length_nil] at this ⊢
      omega
theorem divL_len (isB isW : UInt8 → Bool) : ∀ (n : Nat) (l part : List UInt8), l.length ≤ n → (divL isB isW part l).length ≤ l.length + 1
  | n, [], part, _ => by
    rw [divL_nil]
    split <;> simp
  | 0, c :: r, _, hn => by simp at hn
  | n + 1, c :: r, part, hn => by
    by_cases h : isB c = true ∨ isW c = true
    · rw [divL_sep part h, List.length_append]
      have hlt := sepE_lt (r := r) h
      simp only [List.length_cons] at hlt hn ⊢
      have := divL_len isB isW n (sepE isB isW (c :: r)).1 [] (by omega)
      split
      · simp; omega
      · simp; omega
    · rw [divL_put part h]
      have := divL_len isB isW n r (part ++ [c]) (by simp at hn; omega)
      simp only [List.length_cons]
      omega
def strV (l : List UInt8) : Value := .string ⟨l.toArray⟩
theorem take_map (fs : List (List UInt8)) (k : Nat) (h : k < fs.length) : (fs.take k).map strV ++ [strV fs[k]] = (fs.take (k + 1)).map strV := by
  rw [List.take_add_one, List.getElem?_eq_getElem h, List.map_append]; rfl

set_option maxRecDepth 100000 in
set_option maxHeartbeats 3200000 in
theorem split_any (t s : ByteArray) (w : World) (ht : t.size ≤ 1000000000) (hs : s.size ≤ 1000000000) :
    Calls Tryd.prog 11 #[.string t, .string s] w fun e w' => ∃ v, e = .returned v ∧ SL w' v ((splitL t.data.toList s.data.toList).map fun l => ⟨l.toArray⟩) ∧ Below w.heap.size w w' := by
  obtain ⟨i0, hi0, hz0, hz1, hz2⟩ := info_parts strInfo
  have hTn : t.data.toList.length = t.size := size_toList t
  have hT2 : t.data.toList.length ≤ 1000000000 := by omega
  have HDV := Lib.hid (fun W v (hv : ML m0 W v t.data.toList) => divided_any t.data.toList v s W hv hT2 hs)
  obtain ⟨fs, hfs⟩ : ∃ fs, splitL t.data.toList s.data.toList = fs := ⟨_, rfl⟩
  rw [hfs]
  unfold splitL at hfs
  rw [hfs] at HDV
  have HFLn := Lib.hid (show ∀ f ∈ fs, f.length ≤ t.data.toList.length from fun f hf => by
    rw [← hfs] at hf
    have := divL_field _ _ _ _ _ (Nat.le_refl _) f hf
    simpa using this)
  clear hfs
  go_enter Tryd.func11, Tryd.ntmps11
  go_wp2_with fail
  refine (marked_any t w ht).mono ?_
  rintro e w1 ⟨v1, rfl, hm1, hb1⟩
  have HM1 := Lib.hid hm1
  obtain ⟨A1, c1, rfl, _, hz⟩ := hm1
  clear hz
  have HB1 := Lib.hid hb1
  clear hb1
  go_wp2_with fail
  refine (HDV.out _ _ HM1.out).mono ?_
  rintro e w2 ⟨vo, vs, rfl, ho2, hf2, hl2, hb2⟩
  have HB2 := Lib.hid (HB1.out.trans (hb2.mono HB1.out.size))
  have HF2 := Lib.hid hf2
  have HO2 := Lib.hid ho2
  have hvf : vs.length = fs.length := hf2.1
  clear hb2 hf2
  rcases ho2.2 with ⟨rfl, hv0⟩ | ⟨g, cap, cur, rfl, hbg, hgg, hnc, hcm, hcs, htk⟩
  · have hfs0 : fs = [] := List.length_eq_zero_iff.1 (by omega)
    subst hfs0
    clear ho2
    go_wp2_with fail
    go_loopw [5, 13] (fun s5 i wr => s5 = .slice none 0 0 ∧ i = .int .i64 0 ∧ Hid (Below w.heap.size w wr)) (fun _ _ _ => 0)
    case atStart => exact ⟨rfl, rfl, HB2.out⟩
    case round =>
      obtain ⟨rfl, rfl, HBr⟩ := hrel
      go_wp2_with fail
      go_ret
      exact ⟨_, rfl, ⟨none, 0, rfl, Nat.le_refl _, fun h => by simp at h⟩, HBr.out⟩
  · have hgl : g < w2.heap.size := (Array.getElem?_eq_some_iff.1 hgg).1
    clear ho2 hgg hcs htk hbg
    go_wp2_with fail
    go_loopw [5, 13] (fun s5 i wr => ∃ (so : Value) (k : Nat), so = s5 ∧ i = .int .i64 (k : Int) ∧ k ≤ vs.length ∧ Hid (wr.ownsRow w2.heap.size 9 1 so k ((fs.take k).map strV)) ∧ Hid (Below w2.heap.size w2 wr)) (fun _ i _ => vs.length - (intOf i).toNat)
    case atStart => exact ⟨_, 0, rfl, rfl, Nat.zero_le _, World.ownsRow_nil _ _ _ _, Below.refl _ _⟩
    case round =>
      obtain ⟨so, k, rfl, rfl, hk, HO, HBr⟩ := hrel
      by_cases hlt : k < vs.length
      · have h1 := (HBr.out.cell (p := ⟨g, k, none⟩) hgl).trans (HO2.out.cellAt k (by omega))
        rw [List.getElem?_eq_getElem hlt] at h1
        have hml := (HF2.out.2 k hlt (by omega)).keep HBr.out
        have HML := Lib.hid hml
        have HTK := Lib.hid (take_map fs k (by omega))
        have hfl : fs[k].length ≤ 1000000000 := by
          have h2 := HFLn.out fs[k] (List.getElem_mem _)
          omega
        generalize vs[k] = u at *
        generalize fs[k] = f at *
        clear hml
        go_wp2_with fail
        refine (plain_any f u _ HML.out hfl).mono ?_
        rintro e w3 ⟨rfl, hb3⟩
        have HB3 := Lib.hid (HBr.out.trans (hb3.mono HBr.out.size))
        have HO3 := Lib.hid (HO.out.kept (row := none) ⟨hb3.os, hb3.tape, hb3.output, hb3.size, fun k hk _ => hb3.block k hk⟩ (by cases so.ownBlock <;> simp))
        have HOa := Lib.hid (HO3.out.alloc (.cells #[.string ⟨f.toArray⟩] 9))
        have HN := Lib.hid (new_one w3 (.string ⟨f.toArray⟩) 9)
        have hsz3 := HB3.out.size
        clear hb3 h1
        go_wp2_with (at_builtin; refine wpList_append_own _ rfl _ _ 33 rfl w2.heap.size 9 i0 (.string ⟨#[]⟩) 1 16 Tryd.underlying33 hi0 hz0 hz1 hz2 rfl (by decide) so k _ rfl HOa.out ⟨w3.heap.size, 0, none⟩ 1 1 [.string ⟨f.toArray⟩] rfl rfl HN.out (fun z hz => by simp at hz; subst hz; rfl) ?c3 ?c4 ?c5 ?_)
        case c3 => unfold maxLen; omega
        case c4 => omega
        case c5 => simp; omega
        intro v6 w6 hown6 hg6 _
        have hown7 : w6.ownsRow w2.heap.size 9 1 v6 (k + 1) ((fs.take (k + 1)).map strV) := by rw [← HTK.out, List.map_take]; exact hown6
        have HO6 := Lib.hid hown7
        have HB6 := Lib.hid ((HB3.out.alloc hsz3 (.cells #[.string ⟨f.toArray⟩] 9)).grown hg6 (by simp; omega) (fun g hg => (HOa.out.lt g hg).1))
        clear hown6 hown7 hg6
        go_wp2_with fail
        exact ⟨⟨v6, k + 1, rfl, by go_num, by omega, HO6, HB6⟩, by simp [intOf]; omega⟩
      · have hkf : k = fs.length := by omega
        have HOE := Lib.hid (show wr.ownsRow w2.heap.size 9 1 so (fs.map fun l => (⟨l.toArray⟩ : ByteArray)).length ((fs.map fun l => (⟨l.toArray⟩ : ByteArray)).map Value.string) by
          have h1 := HO.out
          rw [hkf, List.take_length] at h1
          rw [List.length_map, List.map_map]
          exact h1)
        have HBe := Lib.hid (HB2.out.trans (HBr.out.mono HB2.out.size))
        clear HO
        go_wp2_with fail
        go_ret
        exact ⟨so, rfl, SL.of_own HOE.out, HBe.out⟩

end Go.Proofs.YtbgmjmooifjhjaaDoor
