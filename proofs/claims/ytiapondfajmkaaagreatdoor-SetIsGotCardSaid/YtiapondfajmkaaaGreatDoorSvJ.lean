/- Shell states: Check. -/
import Derived.Test.YtiapondfajmkaaaGreatDoorSvI
namespace Go.Proofs.YtiapondfajmkaaaGreatDoor
open Go.RowKit

theorem Bxc.nine {w0 w : World} {bx : Nat} {S : ShV} {p : ShP} (h : Bxc w0 bx (cellsS S p) w) : w.cell? ⟨bx, 0, none⟩ = some (.string S.nm) ∧ w.cell? ⟨bx, 1, none⟩ = some (sv p.ar) ∧ w.cell? ⟨bx, 2, none⟩ = some (sv p.vs) ∧ w.cell? ⟨bx, 3, none⟩ = some (.slice none 0 0) ∧ w.cell? ⟨bx, 4, none⟩ = some (.slice none 0 0) ∧ w.cell? ⟨bx, 5, none⟩ = some (.int .i64 S.op) ∧ w.cell? ⟨bx, 6, none⟩ = some (.int .i64 S.st) ∧ w.cell? ⟨bx, 7, none⟩ = some (.int .i64 S.msk) ∧ w.cell? ⟨bx, 8, none⟩ = some (.string S.dr) :=
  ⟨h.cells 0, h.cells 1, h.cells 2, h.cells 3, h.cells 4, h.cells 5, h.cells 6, h.cells 7, h.cells 8⟩
theorem badName_any {L : List VarV} : L.any badName = false ↔ ∀ v ∈ L, nameOK v.nm := by
  rw [List.any_eq_false]
  refine ⟨fun h s hs => ?_, fun h s hs => ?_⟩
  · have := h s hs
    unfold badName at this
    rw [Bool.not_eq_true, Bool.not_eq_false'] at this
    exact @of_decide_eq_true _ (Classical.propDecidable _) this
  · have := h s hs
    unfold badName
    rw [@decide_eq_true _ (Classical.propDecidable _) this]
    decide
theorem badList_any {L : List VarV} : L.any badList = false ↔ ∀ v ∈ L, (v.il = false → v.ls.length = 0) ∧ (v.il = true → v.vl.size = 0) := by
  have key : ∀ v : VarV, badList v = false ↔ (v.il = false → v.ls.length = 0) ∧ (v.il = true → v.vl.size = 0) := fun v => by
    unfold badList
    cases v.il <;> simp <;> omega
  rw [List.any_eq_false]
  refine ⟨fun h s hs => (key s).1 (by simpa using h s hs), fun h s hs => ?_⟩
  rw [(key s).2 (h s hs)]
  decide
def CheckP (S : ShV) (w : World) (e : Ending) (w' : World) : Prop := ∃ c : Int, e = .returned (.int .i64 c) ∧ (c = 0 ↔ okS S) ∧ Below w.heap.size w w'
theorem CheckP.bad {S : ShV} {w w' : World} {c : Int} (hc : c ≠ 0) (h : okS S → False) (hb : Below w.heap.size w w') : CheckP S w (.returned (.int .i64 c)) w' := ⟨c, rfl, ⟨fun e => absurd e hc, fun e => (h e).elim⟩, hb⟩
set_option maxRecDepth 100000 in
set_option maxHeartbeats 3200000 in
theorem check_any (S : ShV) (p : ShP) (w : World) (hm : ShM w S p) (hs : Small S) (hdr : S.dr = ⟨#[47]⟩) : Calls Tryz.prog 10 #[.agg (cellsS S p)] w (CheckP S w) := by
  obtain ⟨⟨arA, arn, arc⟩, ⟨vA, vn, vc⟩⟩ := p
  obtain rfl := SL.len hm.ar
  obtain ⟨rfl, _, _, _⟩ := VL.at hm.vs
  obtain ⟨Q, hQ⟩ : ∃ Q, CheckP S w = Q := ⟨_, rfl⟩
  rw [hQ]
  have HQ := Lib.hid (fun e w' (h : CheckP S w e w') => (show Q e w' from hQ ▸ h))
  obtain ⟨P, hP⟩ : ∃ P : ShP, P = ⟨(arA, S.ar.length, arc), (vA, S.vs.length, vc)⟩ := ⟨_, rfl⟩
  rw [← hP] at hm
  have HP := Lib.hid hP
  have HM := Lib.hid hm
  have HS := Lib.hid hs
  have HDR := Lib.hid hdr
  clear hQ hm
  have HB0 : Hid (Bxc w w.heap.size (cellsS S P) (w.alloc (.cells #[.string S.nm, .slice arA S.ar.length arc, .slice vA S.vs.length vc, .slice none 0 0, .slice none 0 0, .int .i64 S.op, .int .i64 S.st, .int .i64 S.msk, .string S.dr] 28))) := Lib.hid (by rw [hP]; exact Bxc.start w _ _)
  have HT := Lib.hid (fun W (h : Below w.heap.size w W) => (show Calls Tryz.prog 26 #[.agg #[.string S.nm, .slice arA S.ar.length arc, .slice vA S.vs.length vc, .slice none 0 0, .slice none 0 0, .int .i64 S.op, .int .i64 S.st, .int .i64 S.msk, .string S.dr]] W (TextsP S W) by
    have := texts_any S P W (HM.out.keep h) hs
    rw [hP] at this
    exact this))
  have HZ := Lib.hid (fun W => Tryz.strings_HasPrefix S.dr ⟨#[47]⟩ W)
  have hz1 : Lib.hasPrefix S.dr.data.toList (⟨#[47]⟩ : ByteArray).data.toList = true := by rw [hdr]; decide
  have hds : (S.dr.size : Int) = 1 := by rw [hdr]; rfl
  have HTL := Lib.hid (show (textsL S).length ≤ 9223372036854775807 by
    have h1 := textsV_len hs.ls S.vs.length
    rw [List.take_length] at h1
    have := hs.ar
    have := hs.vs
    simp [textsL]
    omega)
  show Calls _ _ #[.agg #[.string S.nm, .slice arA S.ar.length arc, .slice vA S.vs.length vc, .slice none 0 0, .slice none 0 0, .int .i64 S.op, .int .i64 S.st, .int .i64 S.msk, .string S.dr]] w Q
  cases hB1 : (textsL S).any hasZ
  case true =>
    have HBad := Lib.hid (fun w' h => HQ.out _ _ (CheckP.bad (S := S) (w := w) (w' := w') (c := 5) (by decide) (fun h => by rw [hasZ_any.2 h.noz] at hB1; cases hB1) h))
    have HC := Lib.hid hB1
    clear hB1 hdr hs hP
    go_enter Tryz.func10, Tryz.ntmps10
    go_upto_region 2 with (first
      | (go_at_call 26; refine (HT.out _ HB0.out.below).mono ?_; rintro e w1 ⟨A1, c1, rfl, hsl1, hb1⟩; have HB1 := Lib.hid (HB0.out.keep hb1); have HSL1 := Lib.hid hsl1; clear hsl1 hb1)
      | (go_at_call 25; refine (containsFunc_any 27 (fun _ _ => rfl) hasZ (textsL S) _ _ HSL1.out HTL.out (fun s _ W _ => hasZ_tells s W)).mono ?_; rintro e w2 ⟨rfl, hb2⟩; rw [HC.out]; have HB2 := Lib.hid (HB1.out.keep hb2); clear hb2))
    have HF := Lib.hid (HBad.out w2 HB2.out.below)
    go_wp2_with fail
    exact HF.out
  case false =>
    have HZ1 := Lib.hid (hasZ_any.1 hB1)
    have HC := Lib.hid hB1
    clear hB1 hdr hs hP
    go_enter Tryz.func10, Tryz.ntmps10
    go_upto_region 3 with (first
      | (go_at_call 26; refine (HT.out _ HB0.out.below).mono ?_; rintro e w1 ⟨A1, c1, rfl, hsl1, hb1⟩; have HB1 := Lib.hid (HB0.out.keep hb1); have HSL1 := Lib.hid hsl1; clear hsl1 hb1)
      | (go_at_call 25; refine (containsFunc_any 27 (fun _ _ => rfl) hasZ (textsL S) _ _ HSL1.out HTL.out (fun s _ W _ => hasZ_tells s W)).mono ?_; rintro e w2 ⟨rfl, hb2⟩; rw [HC.out]; have HB2 := Lib.hid (HB1.out.keep hb2); have b8 := HB2.out.nine.2.2.2.2.2.2.2.2; clear hb2)
      | (go_at_call 28; refine (HZ.out _).mono ?_; rintro e w3 ⟨rfl, rfl⟩; rw [hz1]))
    clear b8 HT HZ hz1 HB0 HB1 HSL1 HTL HC
    obtain ⟨b0, b1, b2, b3, b4, b5, b6, b7, b8⟩ : _ := by
      have h9 := HB2.out.nine
      rw [HP.out] at h9
      simp only [sv] at h9
      exact h9
    have hd1 : ¬ (S.dr.size : Int) > 256 := by omega
    have HSZ := Lib.hid (fun W (h : Below w.heap.size w W) => (show Calls Tryz.prog 29 #[.agg #[.string S.nm, .slice arA S.ar.length arc, .slice vA S.vs.length vc, .slice none 0 0, .slice none 0 0, .int .i64 S.op, .int .i64 S.st, .int .i64 S.msk, .string S.dr]] W (SizeP S W) by
      have := size_any S P W (HM.out.keep h) HS.out
      rw [HP.out] at this
      exact this))
    by_cases hL1 : S.vs.length ≤ 200
    case neg =>
      have hz : (S.vs.length : Int) > 200 := by omega
      have HF := Lib.hid (HQ.out _ _ (CheckP.bad (S := S) (w := w) (w' := w3) (c := 2) (by decide) (fun h => hL1 h.vs) HB2.out.below))
      clear hL1
      go_wp2_with fail
      exact HF.out
    have hz1 : ¬ (S.vs.length : Int) > 200 := by omega
    by_cases hL2 : S.ar.length ≤ 1000
    case neg =>
      have hz : (S.ar.length : Int) > 1000 := by omega
      have HF := Lib.hid (HQ.out _ _ (CheckP.bad (S := S) (w := w) (w' := w3) (c := 2) (by decide) (fun h => hL2 h.ar) HB2.out.below))
      clear hL2
      go_wp2_with fail
      exact HF.out
    have hz2 : ¬ (S.ar.length : Int) > 1000 := by omega
    by_cases hL3 : sizeS S ≤ 65536
    case neg =>
      have hz : ((sizeS S : Nat) : Int) > 65536 := by omega
      have HNo := Lib.hid (fun (h : okS S) => hL3 h.sz)
      clear hL3
      go_wp2_with (go_at_call 29; refine (HSZ.out _ HB2.out.below).mono ?_; rintro e w3 ⟨rfl, hb3⟩; have HF := Lib.hid (HQ.out _ _ (CheckP.bad (S := S) (w := w) (w' := w3) (c := 2) (by decide) HNo.out (HB2.out.keep hb3).below)); clear hb3)
      exact HF.out
    have hz3 : ¬ ((sizeS S : Nat) : Int) > 65536 := by omega
    have HL1 := Lib.hid hL1
    have HL2 := Lib.hid hL2
    have HL3 := Lib.hid hL3
    clear hL1 hL2 hL3
    go_upto_region 5 with (go_at_call 29; refine (HSZ.out _ HB2.out.below).mono ?_; rintro e w3 ⟨rfl, hb3⟩; have HB3 := Lib.hid (HB2.out.keep hb3); clear hb3)
    clear HSZ b0 b1 b2 b3 b4 b5 b6 b7 b8 hz1 hz2 hz3 hd1 hds HB2
    obtain ⟨b0, b1, b2, b3, b4, b5, b6, b7, b8⟩ : _ := by
      have h9 := HB3.out.nine
      rw [HP.out] at h9
      simp only [sv] at h9
      exact h9
    have HNM := Lib.hid (fun W (h : Below w.heap.size w W) => (containsFuncV_any 31 (fun _ _ => rfl) badName S.vs vA S.vs.length vc W (by have := (HM.out.keep h).vs; rw [HP.out] at this; exact this) HS.out.vs (badName_tells W S.vs)))
    cases hN : S.vs.any badName
    case true =>
      have HNo := Lib.hid (fun (h : okS S) => (show False by rw [badName_any.2 h.names] at hN; cases hN))
      have HN := Lib.hid hN
      clear hN
      go_wp2_with (go_at_call 30; refine (HNM.out _ HB3.out.below).mono ?_; rintro e w4 ⟨rfl, hb4⟩; rw [HN.out]; have HF := Lib.hid (HQ.out _ _ (CheckP.bad (S := S) (w := w) (w' := w4) (c := 6) (by decide) HNo.out (HB3.out.keep hb4).below)); clear hb4)
      exact HF.out
    have HNM1 := Lib.hid (badName_any.1 hN)
    have HN := Lib.hid hN
    clear hN
    go_upto_region 7 with (first
      | (go_at_call 30; refine (HNM.out _ HB3.out.below).mono ?_; rintro e w4 ⟨rfl, hb4⟩; rw [HN.out]; have HB4 := Lib.hid (HB3.out.keep hb4); have q3 := HB4.out.nine.2.2.2.1; clear hb4)
      | (go_at_call 33; refine (fnoneC_any _ _).mono ?_; rintro e w5 ⟨rfl, rfl⟩))
    clear HNM b0 b1 b2 b3 b4 b5 b6 b7 b8 q3 HB3 HN
    obtain ⟨b0, b1, b2, b3, b4, b5, b6, b7, b8⟩ : _ := by
      have h9 := HB4.out.nine
      rw [HP.out] at h9
      simp only [sv] at h9
      exact h9
    have HRS := Lib.hid (fun W (h : Below w.heap.size w W) => (risingV_any S.vs vA S.vs.length vc W (by have := (HM.out.keep h).vs; rw [HP.out] at this; exact this) HS.out.vs))
    rcases Classical.em (Rises S.vs) with hR | hR
    case inr =>
      have HNo := Lib.hid (fun (h : okS S) => hR h.rises)
      have HR := Lib.hid hR
      clear hR
      go_wp2_with (go_at_call 36; refine (HRS.out _ HB4.out.below).mono ?_; rintro e w5 ⟨f, rfl, hf, hb5⟩; obtain rfl : f = false := Bool.eq_false_iff.2 (fun h => HR.out (hf.1 h)); have HF := Lib.hid (HQ.out _ _ (CheckP.bad (S := S) (w := w) (w' := w5) (c := 9) (by decide) HNo.out (HB4.out.keep hb5).below)); clear hb5 hf)
      exact HF.out
    have HR := Lib.hid hR
    clear hR
    go_upto_region 9 with (first
      | (go_at_call 36; refine (HRS.out _ HB4.out.below).mono ?_; rintro e w5 ⟨f, rfl, hf, hb5⟩; obtain rfl : f = true := hf.2 HR.out; have HB5 := Lib.hid (HB4.out.keep hb5); have q3 := HB5.out.nine.2.2.2.1; have q4 := HB5.out.nine.2.2.2.2.1; clear hb5 hf)
      | (go_at_call 38; refine (frise_any _ _).mono ?_; rintro e w6 ⟨rfl, rfl⟩)
      | (go_at_call 40; refine (trise_any _ _).mono ?_; rintro e w6 ⟨rfl, rfl⟩))
    clear HRS b0 b1 b2 b3 b4 b5 b6 b7 b8 q3 q4 HB4
    obtain ⟨b0, b1, b2, b3, b4, b5, b6, b7, b8⟩ : _ := by
      have h9 := HB5.out.nine
      rw [HP.out] at h9
      simp only [sv] at h9
      exact h9
    have HLS := Lib.hid (fun W (h : Below w.heap.size w W) => (containsFuncV_any 42 (fun _ _ => rfl) badList S.vs vA S.vs.length vc W (by have := (HM.out.keep h).vs; rw [HP.out] at this; exact this) HS.out.vs (badList_tells W S.vs)))
    cases hN : S.vs.any badList
    case true =>
      have HNo := Lib.hid (fun (h : okS S) => (show False by rw [badList_any.2 h.lists] at hN; cases hN))
      have HN := Lib.hid hN
      clear hN
      go_wp2_with (go_at_call 30; refine (HLS.out _ HB5.out.below).mono ?_; rintro e w6 ⟨rfl, hb6⟩; rw [HN.out]; have HF := Lib.hid (HQ.out _ _ (CheckP.bad (S := S) (w := w) (w' := w6) (c := 5) (by decide) HNo.out (HB5.out.keep hb6).below)); clear hb6)
      exact HF.out
    have HLS1 := Lib.hid (badList_any.1 hN)
    have HN := Lib.hid hN
    clear hN
    go_upto_region 11 with (first
      | (go_at_call 30; refine (HLS.out _ HB5.out.below).mono ?_; rintro e w6 ⟨rfl, hb6⟩; rw [HN.out]; have HB6 := Lib.hid (HB5.out.keep hb6); have q3 := HB6.out.nine.2.2.2.1; clear hb6)
      | (go_at_call 33; refine (fnoneC_any _ _).mono ?_; rintro e w7 ⟨rfl, rfl⟩))
    clear HLS b0 b1 b2 b3 b4 b5 b6 b7 b8 q3 HB5 HN
    obtain ⟨b0, b1, b2, b3, b4, b5, b6, b7, b8⟩ : _ := by
      have h9 := HB6.out.nine
      rw [HP.out] at h9
      simp only [sv] at h9
      exact h9
    by_cases hw0 : 0 ≤ S.op ∧ S.op ≤ 31
    case neg =>
      have hz : decide (0 ≤ S.op ∧ S.op ≤ 31) = false := decide_eq_false hw0
      have HF := Lib.hid (HQ.out _ _ (CheckP.bad (S := S) (w := w) (w' := w6) (c := 3) (by decide) (fun h => hw0 h.op) HB6.out.below))
      clear hw0
      go_wp2_with (first
        | (go_at_call 46; refine (tnoneC_any _ _).mono ?_; rintro e w7 ⟨rfl, rfl⟩)
        | (go_at_call 49; refine (swithin_any _ _ _ _).mono ?_; rintro e w7 ⟨rfl, rfl⟩))
      exact HF.out
    have hz0 : decide (0 ≤ S.op ∧ S.op ≤ 31) = true := decide_eq_true hw0
    have HW0 := Lib.hid hw0
    clear hw0
    by_cases hw1 : 0 ≤ S.st ∧ S.st ≤ 255
    case neg =>
      have hz : decide (0 ≤ S.st ∧ S.st ≤ 255) = false := decide_eq_false hw1
      have HF := Lib.hid (HQ.out _ _ (CheckP.bad (S := S) (w := w) (w' := w6) (c := 3) (by decide) (fun h => hw1 h.st) HB6.out.below))
      clear hw1
      go_wp2_with (first
        | (go_at_call 46; refine (tnoneC_any _ _).mono ?_; rintro e w7 ⟨rfl, rfl⟩)
        | (go_at_call 49; refine (swithin_any _ _ _ _).mono ?_; rintro e w7 ⟨rfl, rfl⟩))
      exact HF.out
    have hz1 : decide (0 ≤ S.st ∧ S.st ≤ 255) = true := decide_eq_true hw1
    have HW1 := Lib.hid hw1
    clear hw1
    by_cases hw2 : 0 ≤ S.msk ∧ S.msk ≤ 511
    case neg =>
      have hz : decide (0 ≤ S.msk ∧ S.msk ≤ 511) = false := decide_eq_false hw2
      have HF := Lib.hid (HQ.out _ _ (CheckP.bad (S := S) (w := w) (w' := w6) (c := 3) (by decide) (fun h => hw2 h.msk) HB6.out.below))
      clear hw2
      go_wp2_with (first
        | (go_at_call 46; refine (tnoneC_any _ _).mono ?_; rintro e w7 ⟨rfl, rfl⟩)
        | (go_at_call 49; refine (swithin_any _ _ _ _).mono ?_; rintro e w7 ⟨rfl, rfl⟩))
      exact HF.out
    have hz2 : decide (0 ≤ S.msk ∧ S.msk ≤ 511) = true := decide_eq_true hw2
    have HW2 := Lib.hid hw2
    clear hw2
    have HF := Lib.hid (HQ.out _ _ (show CheckP S w (.returned (.int .i64 0)) w6 from ⟨0, rfl, ⟨fun _ => ⟨HZ1.out, HL1.out, HL2.out, HL3.out, HNM1.out, HR.out, HLS1.out, HW0.out, HW1.out, HW2.out⟩, fun _ => rfl⟩, HB6.out.below⟩))
    go_wp2_with (first
        | (go_at_call 46; refine (tnoneC_any _ _).mono ?_; rintro e w7 ⟨rfl, rfl⟩)
        | (go_at_call 49; refine (swithin_any _ _ _ _).mono ?_; rintro e w7 ⟨rfl, rfl⟩))
    exact HF.out
end Go.Proofs.YtiapondfajmkaaaGreatDoor
