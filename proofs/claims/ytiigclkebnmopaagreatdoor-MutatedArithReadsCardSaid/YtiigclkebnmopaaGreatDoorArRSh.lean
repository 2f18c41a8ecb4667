/- Arithmetic expressions: the reference's exprShape: what it calls. -/
import Derived.Test.YtiigclkebnmopaaGreatDoorArRPr
import Derived.Shelf.Strings.SlTrimAscii
namespace Go.Proofs.YtiigclkebnmopaaGreatDoor
open Go.RowKit Go.Shelf

theorem dropw_nil {q : UInt8 → Bool} : ∀ {l : List UInt8}, l.dropWhile q = [] → ∀ x ∈ l, q x = true
  | [], _, x, hx => by cases hx
  | a :: l, h, x, hx => by
    unfold List.dropWhile at h
    split at h
    · rename_i ha
      rcases List.mem_cons.1 hx with rfl | hx
      · exact ha
      · exact dropw_nil h x hx
    · cases h
theorem dropw_head {q : UInt8 → Bool} : ∀ {l : List UInt8} {x : UInt8} {r : List UInt8}, l.dropWhile q = x :: r → q x = false
  | [], _, _, h => by cases h
  | a :: l, x, r, h => by
    unfold List.dropWhile at h
    split at h
    · exact dropw_head h
    · rename_i ha
      cases h
      exact ha
theorem nil_dropw {q : UInt8 → Bool} : ∀ {l : List UInt8}, (∀ x ∈ l, q x = true) → l.dropWhile q = []
  | [], _ => rfl
  | a :: l, h => by
    unfold List.dropWhile
    rw [h a (by simp)]
    exact nil_dropw fun x hx => h x (by simp [hx])
theorem trim_digits (nm : List UInt8) (h0 : nm ≠ []) (hl : nm.length ≤ 1000000) (w : World) : Calls Tryz.prog 76 #[.string (toB nm), .string ⟨#[48, 49, 50, 51, 52, 53, 54, 55, 56, 57]⟩] w fun e w' => (∃ s : ByteArray, e = .returned (.string s) ∧ (s.toList == []) = nm.all isD) ∧ Below w.heap.size w w' := by
  have hz := toB_size nm
  have hp : 0 < nm.length := List.length_pos_iff.2 h0
  refine (Any.strings_Trim_set Tryz.lays160 (fun w => by kernel_rfl) (by kernel_rfl) (toB nm) ⟨#[48, 49, 50, 51, 52, 53, 54, 55, 56, 57]⟩ w (by decide) (by omega) (by omega) (by decide) ?_).mono ?_
  · intro j b hb
    have hall : ∀ b ∈ ([48, 49, 50, 51, 52, 53, 54, 55, 56, 57] : List UInt8), b.toNat < 128 := by decide
    exact hall b (List.mem_of_getElem? hb)
  · rintro e w' ⟨rfl, q, rfl⟩
    have hb2 : ∀ o1 o2, Below w.heap.size w (((w.alloc o1).alloc o2).drewN q) := fun o1 o2 => by
      have h1 := ((Below.refl w.heap.size w).alloc (Nat.le_refl _) o1).alloc (by simp) o2
      exact ⟨h1.os, h1.tape, h1.output, h1.size, h1.block⟩
    refine ⟨⟨_, rfl, ?_⟩, hb2 _ _⟩
    rw [ByteArray.toList_eq]
    show ((Lib.trimS nm [48, 49, 50, 51, 52, 53, 54, 55, 56, 57]) == []) = _
    have hin : ∀ c : UInt8, ([48, 49, 50, 51, 52, 53, 54, 55, 56, 57] : List UInt8).contains c = isD c := by
      intro c
      have : ∀ d : Fin 256, ([48, 49, 50, 51, 52, 53, 54, 55, 56, 57] : List UInt8).contains (UInt8.ofNat d.val) = isD (UInt8.ofNat d.val) := by decide +kernel
      have h2 := this ⟨c.toNat, c.toNat_lt⟩
      rw [UInt8.ofNat_toNat] at h2
      exact h2
    unfold Lib.trimS Lib.trimLeftS Lib.trimRightS
    simp only [hin]
    rw [show (fun x => isD x) = isD from rfl]
    cases ha : nm.all isD with
    | true =>
      have h1 : nm.reverse.dropWhile isD = [] := nil_dropw fun x hx => List.all_eq_true.1 ha x (by simpa using hx)
      rw [h1]
      rfl
    | false =>
      have h1 : ¬ (nm.reverse.dropWhile isD).reverse.dropWhile isD = [] := by
        intro h
        have h2 := dropw_nil h
        have h3 : nm.reverse.dropWhile isD = [] := by
          cases hd : nm.reverse.dropWhile isD with
          | nil => rfl
          | cons x r =>
            exfalso
            have hx : isD x = false := dropw_head hd
            have := h2 x (by rw [hd]; simp)
            rw [hx] at this
            cases this
        have : nm.all isD = true := List.all_eq_true.2 fun x hx => dropw_nil h3 x (by simpa using hx)
        rw [ha] at this
        cases this
      simpa using h1

/-- the reference tells the form -/
def RSh (P : Nat → Prop) (y : Ex) : Prop := ∀ (v : Value) (W : World), ExV P W v y → Calls Tryz.prog 40 #[v] W fun e W' => e = .returned (.bool (shaped y)) ∧ Below W.heap.size W W'
set_option maxHeartbeats 1600000 in
theorem rshape1_any (P : Nat → Prop) (y : Ex) (IH : RSh P y) (v : Value) (w : World) (hx : ExV P w v y) : Calls Tryz.prog 78 #[v] w fun e w' => e = .returned (.bool (!shaped y)) ∧ Below w.heap.size w w' := by
  obtain ⟨n5, A5, k5, c5, nm5, rfl, hq⟩ := hx.form
  clear hq
  have ba := (Below.refl w.heap.size w).alloc (Nat.le_refl _) (.cells #[.string (toB y.op), .int .i64 n5, .string (toB nm5), .slice A5 k5 c5] 25)
  have HB := Lib.hid ba
  have F := Lib.hid (Four.new w (.string (toB y.op)) (.int .i64 n5) (.string (toB nm5)) (.slice A5 k5 c5))
  have HI := Lib.hid (fun W (hb : Below w.heap.size w W) => IH _ W (hx.below hb))
  clear hx IH ba
  go_enter Tryz.func78, Tryz.ntmps78
  obtain ⟨c0, c1, c2, c3, cf⟩ := F.out.cells
  go_wp2_with fail
  refine (HI.out _ HB.out).mono ?_
  rintro e w2 ⟨rfl, hb2⟩
  have HB2 := Lib.hid (HB.out.trans (hb2.mono HB.out.size))
  clear hb2
  go_wp2_with fail
  go_ret
  exact ⟨rfl, HB2.out⟩
set_option maxRecDepth 100000 in
set_option maxHeartbeats 3200000 in
theorem rindex_any (P : Nat → Prop) (A : Option Addr) (c : Nat) (l : List Ex) (w : World) (hA : ExA P w A l) (hl : l.length ≤ 1048576) (IH : ∀ y ∈ l, RSh P y) :
    Calls Tryz.prog 137 #[.slice A l.length c, .func (.func 78) #[] #[]] w fun e w' => (∃ i : Int, e = .returned (.int .i64 i) ∧ decide (i ≥ 0) = !shapeds l) ∧ Below w.heap.size w w' := by
  have HA := Lib.hid hA
  have HI := Lib.hid IH
  clear hA IH
  go_enter Tryz.func137, Tryz.ntmps137
  go_wp2_with fail
  go_loopw [8] (fun s8 wr => ∃ (k : Nat), s8 = .int .i64 (k : Int) ∧ k ≤ l.length ∧ Hid (ExA P wr A l) ∧ Hid (shapeds l = shapeds (l.drop k)) ∧ Hid (Below w.heap.size w wr)) (fun s8 _ => l.length - (intOf s8).toNat)
  case atStart => exact ⟨0, rfl, Nat.zero_le _, HA, Lib.hid rfl, Lib.hid (Below.refl _ _)⟩
  case round =>
    clear HA
    obtain ⟨k, rfl, hk, HA, HS, HW⟩ := hrel
    by_cases hlt : k < l.length
    · obtain ⟨g, off, rfl, _, hg, hL⟩ := HA.out (by omega)
      have hdr : l.drop k = l[k] :: l.drop (k + 1) := List.drop_eq_getElem_cons hlt
      have hLk := exl_at (k := k) hL
      have hmem := List.getElem_mem hlt
      rw [hdr] at hLk HS
      obtain ⟨v0, v1, v2, v3, k0, k1, k2, k3, hx⟩ := ex0 hLk
      generalize l[k] = y at *
      rw [show off + 4 * k = off + k * 4 by omega] at k0 k1 k2 k3
      obtain ⟨n5, A5, k5, c5, nm5, hv, hq5⟩ := hx.form
      simp only [Value.agg.injEq, Array.mk.injEq, List.cons.injEq, and_true] at hv
      clear hq5
      obtain ⟨rfl, rfl, rfl, rfl⟩ := hv
      have HI2 := Lib.hid (rshape1_any P y (HI.out y hmem) _ wr hx)
      clear hdr hx hL hLk hmem
      go_wp2_with fail
      refine HI2.out.mono ?_
      rintro e w3 ⟨rfl, hb3⟩
      have HA3 := Lib.hid (HA.out.below hb3)
      have HW3 := Lib.hid (HW.out.trans (hb3.mono HW.out.size))
      clear hb3 k0 k1 k2 k3
      cases hs : shaped y with
      | true =>
        have HS3 := Lib.hid (show shapeds l = shapeds (l.drop (k + 1)) by
          rw [HS.out]
          show (shaped y && _) = _
          rw [hs]
          rfl)
        clear hs
        go_wp2_with fail
        exact ⟨⟨k + 1, (by congr 1), by omega, HA3, HS3, HW3⟩, by simp [intOf]; omega⟩
      | false =>
        have HS3 := Lib.hid (show shapeds l = false by
          rw [HS.out]
          show (shaped y && _) = _
          rw [hs]
          rfl)
        clear hs
        go_wp2_with fail
        go_ret
        exact ⟨⟨_, rfl, by rw [HS3.out]; simp⟩, HW3.out⟩
    · obtain rfl : k = l.length := by omega
      have HS3 := Lib.hid (show shapeds l = true by rw [HS.out, List.drop_length]; rfl)
      go_wp2_with fail
      go_ret
      exact ⟨⟨_, rfl, by rw [HS3.out]; rfl⟩, HW.out⟩
set_option maxHeartbeats 1600000 in
theorem rcontains_any (P : Nat → Prop) (A : Option Addr) (c : Nat) (l : List Ex) (w : World) (hA : ExA P w A l) (hl : l.length ≤ 1048576) (IH : ∀ y ∈ l, RSh P y) :
    Calls Tryz.prog 77 #[.slice A l.length c, .func (.func 78) #[] #[]] w fun e w' => e = .returned (.bool (!shapeds l)) ∧ Below w.heap.size w w' := by
  have HI := Lib.hid (rindex_any P A c l w hA hl IH)
  clear hA IH
  go_enter Tryz.func77, Tryz.ntmps77
  go_wp2_with fail
  refine HI.out.mono ?_
  rintro e w2 ⟨⟨i, rfl, hi⟩, hb⟩
  have Hi := Lib.hid hi
  have HB := Lib.hid hb
  clear hi hb
  go_wp2_with fail
  go_ret
  exact ⟨by rw [← Hi.out]; rfl, HB.out⟩

end Go.Proofs.YtiigclkebnmopaaGreatDoor
