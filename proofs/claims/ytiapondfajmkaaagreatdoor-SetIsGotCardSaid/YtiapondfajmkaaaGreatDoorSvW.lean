/- Shell variables: set, Set. -/
import Derived.Test.YtiapondfajmkaaaGreatDoorSvV
namespace Go.Proofs.YtiapondfajmkaaaGreatDoor
open Go.RowKit

set_option maxRecDepth 100000 in
set_option maxHeartbeats 1600000 in
theorem set_any (B b : Nat) (S : ShV) (A V : SV) (P : List VE) (n v : ByteArray) (w : World) (h : InBox B b w S A V P) (hok : okS S) (h0 : 0 < S.vs.length) (hs : Small S) (hfx : ∀ v ∈ S.vs, v.fx = false) (hsz : n.size + v.size ≤ 1152921504606846976) :
    Calls Tryz.prog 21 #[.pointer (some ⟨b, 0, none⟩), .string n, .string v] w (ChangeP B b S A n v ((getD S.vs n).ex || outB S.op) w) := by
  have HC := Lib.hid (change_any B b S A V P n v w h hok h0 hs hfx hsz)
  clear h hok h0 hs hfx hsz
  have HQ := Lib.hid (fun e w' (h : ChangeP B b S A n v ((getD S.vs n).ex || outB S.op) w e w') => h)
  have HE := Lib.hid (fun e w' (h : ChangeP B b S A n v ((getD S.vs n).ex || outB S.op) w e w') => (show ∃ c : Int, e = .returned (.int .i64 c) from ⟨h.choose, h.choose_spec.1⟩))
  generalize ChangeP B b S A n v ((getD S.vs n).ex || outB S.op) w = Q at *
  clear HQ
  go_enter Tryz.func21, Tryz.ntmps21
  go_wp2_with (go_at_call 58; refine HC.out.mono ?_; intro e w2 h2; obtain ⟨c, rfl⟩ := HE.out _ _ h2)
  exact h2
def zeroS : ShV := ⟨⟨#[]⟩, [], [], 0, 0, 0, ⟨#[]⟩⟩
def SetP (S : ShV) (n v : ByteArray) (w : World) (e : Ending) (w' : World) : Prop :=
  ∃ (c : Int) (S' : ShV) (A V : SV), e = .returned (.tuple #[.agg (cS S' A V), .int .i64 c]) ∧ Below w.heap.size w w' ∧
    (c = 0 → S' = putS S (plainV n v ((getD S.vs n).ex || outB S.op)) ∧ nameOK n ∧ noZ v ∧ okS S' ∧ ShM w' S' ⟨A, V⟩ ∧ ∃ P B, P.map Prod.fst = S'.vs ∧ VO B w' (sv V) P) ∧
    (okS S → (c = 6 ↔ ¬ nameOK n) ∧ (c = 5 ↔ nameOK n ∧ ¬ noZ v) ∧ (c = 0 ∨ c = 2 ∨ c = 5 ∨ c = 6))
set_option maxRecDepth 100000 in
set_option maxHeartbeats 3200000 in
theorem Set_any (S : ShV) (p : ShP) (n v : ByteArray) (w : World) (hm : ShM w S p) (hs : Small S) (hdr : S.dr = ⟨#[47]⟩) (h0 : 0 < S.vs.length) (hfx : ∀ v ∈ S.vs, v.fx = false) (hsz : n.size + v.size ≤ 1152921504606846976) :
    Calls Tryz.prog 7 #[.agg (cellsS S p), .string n, .string v] w (SetP S n v w) := by
  obtain ⟨⟨arA, arn, arc⟩, ⟨vA, vn, vc⟩⟩ := p
  obtain rfl := SL.len hm.ar
  obtain rfl := (VL.at hm.vs).1
  obtain ⟨Q, hQ⟩ : ∃ Q, SetP S n v w = Q := ⟨_, rfl⟩
  rw [hQ]
  have HQ := Lib.hid (fun e w' (h : SetP S n v w e w') => (show Q e w' from hQ ▸ h))
  have HM := Lib.hid hm
  have HS := Lib.hid hs
  have HDR := Lib.hid hdr
  clear hdr
  obtain ⟨bx, hbx⟩ : ∃ bx, bx = w.heap.size := ⟨_, rfl⟩
  have HBXE := Lib.hid hbx
  clear hQ hbx
  show Calls _ _ #[.agg #[.string S.nm, .slice arA S.ar.length arc, .slice vA S.vs.length vc, .slice none 0 0, .slice none 0 0, .int .i64 S.op, .int .i64 S.st, .int .i64 S.msk, .string S.dr], .string n, .string v] w Q
  go_enter Tryz.func7, Tryz.ntmps7
  go_upto_region 1 with fail
  obtain ⟨W0, hW0⟩ : ∃ W0, W0 = (w.alloc (.cells #[.string S.nm, .slice arA S.ar.length arc, .slice vA S.vs.length vc, .slice none 0 0, .slice none 0 0, .int .i64 S.op, .int .i64 S.st, .int .i64 S.msk, .string S.dr] 28)).alloc (.cells #[.string ⟨#[]⟩, .slice none 0 0, .slice none 0 0, .slice none 0 0, .slice none 0 0, .int .i64 0, .int .i64 0, .int .i64 0, .string ⟨#[]⟩] 28) := ⟨_, rfl⟩
  have HX0 : Hid (Blk W0 bx 28 #[.string S.nm, .slice arA S.ar.length arc, .slice vA S.vs.length vc, .slice none 0 0, .slice none 0 0, .int .i64 S.op, .int .i64 S.st, .int .i64 S.msk, .string S.dr]) := Lib.hid (by rw [hW0]; exact (Blk.new w _ _ HBXE.out.symm).alloc _)
  have HY0 : Hid (Blk W0 (bx + 1) 28 #[.string ⟨#[]⟩, .slice none 0 0, .slice none 0 0, .slice none 0 0, .slice none 0 0, .int .i64 0, .int .i64 0, .int .i64 0, .string ⟨#[]⟩]) := Lib.hid (by rw [hW0]; exact Blk.new _ _ _ (by rw [HBXE.out]; simp))
  have HB0 : Hid (Below w.heap.size w W0) := Lib.hid (by rw [hW0]; exact ((Below.refl _ w).alloc (Nat.le_refl _) _).alloc (by simp) _)
  rw [← HBXE.out, ← hW0]
  clear hW0
  have hbw : w.heap.size ≤ bx := by rw [HBXE.out]; exact Nat.le_refl _
  obtain ⟨x0, x1, x2, x3, x4, x5, x6, x7, x8, xf⟩ := HX0.out.nine
  have HCK : Hid (Calls Tryz.prog 10 #[.agg #[.string S.nm, .slice arA S.ar.length arc, .slice vA S.vs.length vc, .slice none 0 0, .slice none 0 0, .int .i64 S.op, .int .i64 S.st, .int .i64 S.msk, .string S.dr]] W0 (CheckP S W0)) := Lib.hid (check_any S ⟨(arA, S.ar.length, arc), (vA, S.vs.length, vc)⟩ W0 (HM.out.keep HB0.out) hs HDR.out)
  clear hm
  go_upto_region 2 with (go_at_call 10; refine HCK.out.mono ?_; rintro e w1 ⟨c, rfl, hc, hb1⟩)
  have HX1 := Lib.hid (HX0.out.keep hb1)
  have HY1 := Lib.hid (HY0.out.keep hb1)
  have HB1 := Lib.hid (HB0.out.trans (hb1.mono HB0.out.size))
  have HCC := Lib.hid hc
  clear hb1 hc HX0 HY0 HB0 HCK x0 x1 x2 x3 x4 x5 x6 x7 x8 xf
  obtain ⟨x0, x1, x2, x3, x4, x5, x6, x7, x8, xf⟩ := HX1.out.nine
  obtain ⟨y0, y1, y2, y3, y4, y5, y6, y7, y8, yf⟩ := HY1.out.nine
  by_cases hcz : c = 0
  case neg =>
    have HF := Lib.hid (HQ.out (.returned (.tuple #[.agg #[.string ⟨#[]⟩, .slice none 0 0, .slice none 0 0, .slice none 0 0, .slice none 0 0, .int .i64 0, .int .i64 0, .int .i64 0, .string ⟨#[]⟩], .int .i64 c])) (set9 w1 (bx + 1) (.string ⟨#[]⟩) (.slice none 0 0) (.slice none 0 0) (.slice none 0 0) (.slice none 0 0) (.int .i64 0) (.int .i64 0) (.int .i64 0) (.string ⟨#[]⟩)) ⟨c, zeroS, (none, 0, 0), (none, 0, 0), rfl, set9_below HB1.out (Nat.le_succ_of_le hbw) _ _ _ _ _ _ _ _ _, (fun e => absurd e hcz), (fun h => absurd (HCC.out.2 h) hcz)⟩)
    have HE := set9_blk HY1.out (.string ⟨#[]⟩) (.slice none 0 0) (.slice none 0 0) (.slice none 0 0) (.slice none 0 0) (.int .i64 0) (.int .i64 0) (.int .i64 0) (.string ⟨#[]⟩)
    obtain ⟨W6, hW6⟩ : ∃ W6, W6 = set9 w1 (bx + 1) (.string ⟨#[]⟩) (.slice none 0 0) (.slice none 0 0) (.slice none 0 0) (.slice none 0 0) (.int .i64 0) (.int .i64 0) (.int .i64 0) (.string ⟨#[]⟩) := ⟨_, rfl⟩
    rw [← hW6] at HF HE
    obtain ⟨z0, z1, z2, z3, z4, z5, z6, z7, z8, _⟩ := HE.nine
    unfold set9 at hW6
    have HW6 := Lib.hid hW6
    clear hW6 HE
    go_wp2_with fail
    rw [← HW6.out]
    exact bodyPost_ret (v := .tuple #[.agg #[.string ⟨#[]⟩, .slice none 0 0, .slice none 0 0, .slice none 0 0, .slice none 0 0, .int .i64 0, .int .i64 0, .int .i64 0, .string ⟨#[]⟩], .int .i64 c]) (by simp [results, Tryz.results7, go_sem, z0, z1, z2, z3, z4, z5, z6, z7, z8]) rfl HF.out
  subst hcz
  have hok : okS S := HCC.out.1 rfl
  have HOK := Lib.hid hok
  have HOW : Hid (Calls Tryz.prog 20 #[.agg #[.string S.nm, .slice arA S.ar.length arc, .slice vA S.vs.length vc, .slice none 0 0, .slice none 0 0, .int .i64 S.op, .int .i64 S.st, .int .i64 S.msk, .string S.dr]] w1 (CopyP S w1)) := Lib.hid (ownState_any S ⟨(arA, S.ar.length, arc), (vA, S.vs.length, vc)⟩ w1 (HM.out.keep HB1.out) hs)
  have HST := Lib.hid (fun B b A V P W h => set_any B b S A V P n v W h hok h0 hs hfx hsz)
  clear hs hok h0 hfx hsz HCC
  go_upto_region 5 with (go_at_call 20; refine HOW.out.mono ?_; rintro e w2 ⟨⟨A1, a1, c1⟩, ⟨A3, n3, c3⟩, P, rfl, hP, ha, ho, hb⟩; have HX2 := Lib.hid (HX1.out.keep hb); have HY2 := Lib.hid (HY1.out.keep hb); obtain ⟨q0, q1, q2, q3, q4, q5, q6, q7, q8, qf⟩ := HX2.out.nine; have HA2 := Lib.hid ha; have HO2 := Lib.hid ho; have HB2 := Lib.hid (HB1.out.trans (hb.mono HB1.out.size)); have HP := Lib.hid hP; have HB2sz := Lib.hid hb.size; clear ha ho hb hP; unfold cellsS sv)
  obtain ⟨W3, hW3⟩ : ∃ W3, W3 = set9 w2 bx (.string S.nm) (.slice A1 a1 c1) (.slice A3 n3 c3) (.slice none 0 0) (.slice none 0 0) (.int .i64 S.op) (.int .i64 S.st) (.int .i64 S.msk) (.string S.dr) := ⟨_, rfl⟩
  have hB1 : bx + 1 < w1.heap.size := HY1.out.lt
  have HI3 : Hid (InBox w1.heap.size bx W3 S (A1, a1, c1) (A3, n3, c3) P) := Lib.hid ⟨by rw [hW3]; exact set9_blk HX2.out _ _ _ _ _ _ _ _ _, by rw [hW3]; exact set9_vo HO2.out HX2.out (by decide) (by decide) _ _ _ _ _ _ _ _ _, HP.out, by rw [hW3]; exact HA2.out.keepT (set9_keepT HX2.out (by decide) _ _ _ _ _ _ _ _ _), by omega, by
    rw [hW3]
    exact Nat.le_trans HB2sz.out (set9_below (Below.refl bx w2) (Nat.le_refl _) _ _ _ _ _ _ _ _ _).size⟩
  have HY3 : Hid (Blk W3 (bx + 1) 28 #[.string ⟨#[]⟩, .slice none 0 0, .slice none 0 0, .slice none 0 0, .slice none 0 0, .int .i64 0, .int .i64 0, .int .i64 0, .string ⟨#[]⟩]) := Lib.hid (by rw [hW3]; exact (set9_heap _ _ _ _ _ _ _ _ _ _ _ _ (by simp)).trans HY2.out)
  have HB3 : Hid (Below w.heap.size w W3) := Lib.hid (by rw [hW3]; exact set9_below HB2.out hbw _ _ _ _ _ _ _ _ _)
  unfold set9 at hW3
  rw [← hW3]
  have HS3 := Lib.hid (HST.out _ _ _ _ _ _ HI3.out)
  clear hW3 q0 q1 q2 q3 q4 q5 q6 q7 q8 qf x0 x1 x2 x3 x4 x5 x6 x7 x8 xf y0 y1 y2 y3 y4 y5 y6 y7 y8 yf HX2 HY2 HO2 HA2 HB2 HX1 HY1 HB1 HOW HST
  go_upto_region 6 with (go_at_call 21; refine HS3.out.mono ?_; rintro e w4 ⟨c, rfl, hp4, h4, h5, h6, h7⟩)
  have HY4 : Hid (Blk w4 (bx + 1) 28 #[.string ⟨#[]⟩, .slice none 0 0, .slice none 0 0, .slice none 0 0, .slice none 0 0, .int .i64 0, .int .i64 0, .int .i64 0, .string ⟨#[]⟩]) := Lib.hid ((hp4.block (bx + 1) hB1 (by omega)).trans HY3.out)
  have HB4 : Hid (Below w.heap.size w w4) := Lib.hid ⟨hp4.os.trans HB3.out.os, hp4.tape.trans HB3.out.tape, hp4.output.trans HB3.out.output, Nat.le_trans HB3.out.size hp4.size, fun k hk => (hp4.block k (by have := HBXE.out; omega) (by have := HBXE.out; omega)).trans (HB3.out.block k hk)⟩
  have H5 := Lib.hid (And.intro h5 (And.intro h6 h7))
  clear hp4 h5 h6 h7 HY3 HB3 HI3 HS3
  obtain ⟨y0, y1, y2, y3, y4, y5, y6, y7, y8, yf⟩ := HY4.out.nine
  by_cases hcz : c = 0
  case neg =>
    have HF := Lib.hid (HQ.out (.returned (.tuple #[.agg #[.string ⟨#[]⟩, .slice none 0 0, .slice none 0 0, .slice none 0 0, .slice none 0 0, .int .i64 0, .int .i64 0, .int .i64 0, .string ⟨#[]⟩], .int .i64 c])) (set9 w4 (bx + 1) (.string ⟨#[]⟩) (.slice none 0 0) (.slice none 0 0) (.slice none 0 0) (.slice none 0 0) (.int .i64 0) (.int .i64 0) (.int .i64 0) (.string ⟨#[]⟩)) ⟨c, zeroS, (none, 0, 0), (none, 0, 0), rfl, set9_below HB4.out (Nat.le_succ_of_le hbw) _ _ _ _ _ _ _ _ _, (fun e => absurd e hcz), (fun _ => H5.out)⟩)
    have HE := set9_blk HY4.out (.string ⟨#[]⟩) (.slice none 0 0) (.slice none 0 0) (.slice none 0 0) (.slice none 0 0) (.int .i64 0) (.int .i64 0) (.int .i64 0) (.string ⟨#[]⟩)
    obtain ⟨W6, hW6⟩ : ∃ W6, W6 = set9 w4 (bx + 1) (.string ⟨#[]⟩) (.slice none 0 0) (.slice none 0 0) (.slice none 0 0) (.slice none 0 0) (.int .i64 0) (.int .i64 0) (.int .i64 0) (.string ⟨#[]⟩) := ⟨_, rfl⟩
    rw [← hW6] at HF HE
    obtain ⟨z0, z1, z2, z3, z4, z5, z6, z7, z8, _⟩ := HE.nine
    unfold set9 at hW6
    have HW6 := Lib.hid hW6
    clear hW6 HE h4
    go_wp2_with fail
    rw [← HW6.out]
    exact bodyPost_ret (v := .tuple #[.agg #[.string ⟨#[]⟩, .slice none 0 0, .slice none 0 0, .slice none 0 0, .slice none 0 0, .int .i64 0, .int .i64 0, .int .i64 0, .string ⟨#[]⟩], .int .i64 c]) (by simp [results, Tryz.results7, go_sem, z0, z1, z2, z3, z4, z5, z6, z7, z8]) rfl HF.out
  subst hcz
  obtain ⟨hnm, hnz, hl4, hs4, ⟨A4, n4, c4⟩, P4, hI4⟩ := h4 rfl
  obtain ⟨x0, x1, x2, x3, x4, x5, x6, x7, x8, xf⟩ := Blk.nine (show Blk w4 bx 28 #[.string S.nm, .slice A1 a1 c1, .slice A4 n4 c4, .slice none 0 0, .slice none 0 0, .int .i64 S.op, .int .i64 S.st, .int .i64 S.msk, .string S.dr] from hI4.blk)
  have HF := Lib.hid (HQ.out (.returned (.tuple #[.agg #[.string S.nm, .slice A1 a1 c1, .slice A4 n4 c4, .slice none 0 0, .slice none 0 0, .int .i64 S.op, .int .i64 S.st, .int .i64 S.msk, .string S.dr], .int .i64 0])) (set9 w4 (bx + 1) (.string S.nm) (.slice A1 a1 c1) (.slice A4 n4 c4) (.slice none 0 0) (.slice none 0 0) (.int .i64 S.op) (.int .i64 S.st) (.int .i64 S.msk) (.string S.dr)) ⟨0, putS S (plainV n v ((getD S.vs n).ex || outB S.op)), (A1, a1, c1), (A4, n4, c4), rfl, set9_below HB4.out (Nat.le_succ_of_le hbw) _ _ _ _ _ _ _ _ _, (fun _ => ⟨rfl, hnm, hnz, okS_put HOK.out hnm (noZ_name hnm) hnz rfl rfl hl4 hs4, ⟨hI4.ar.keepT (set9_keepT HY4.out (by decide) _ _ _ _ _ _ _ _ _), by
      have := (set9_vo hI4.vo HY4.out (by decide) (by decide) (.string S.nm) (.slice A1 a1 c1) (.slice A4 n4 c4) (.slice none 0 0) (.slice none 0 0) (.int .i64 S.op) (.int .i64 S.st) (.int .i64 S.msk) (.string S.dr)).vl
      rw [hI4.map] at this
      exact this⟩, P4, _, hI4.map, set9_vo hI4.vo HY4.out (by decide) (by decide) (.string S.nm) (.slice A1 a1 c1) (.slice A4 n4 c4) (.slice none 0 0) (.slice none 0 0) (.int .i64 S.op) (.int .i64 S.st) (.int .i64 S.msk) (.string S.dr)⟩), (fun _ => H5.out)⟩)
  have HE := set9_blk HY4.out (.string S.nm) (.slice A1 a1 c1) (.slice A4 n4 c4) (.slice none 0 0) (.slice none 0 0) (.int .i64 S.op) (.int .i64 S.st) (.int .i64 S.msk) (.string S.dr)
  obtain ⟨W6, hW6⟩ : ∃ W6, W6 = set9 w4 (bx + 1) (.string S.nm) (.slice A1 a1 c1) (.slice A4 n4 c4) (.slice none 0 0) (.slice none 0 0) (.int .i64 S.op) (.int .i64 S.st) (.int .i64 S.msk) (.string S.dr) := ⟨_, rfl⟩
  rw [← hW6] at HF HE
  obtain ⟨z0, z1, z2, z3, z4, z5, z6, z7, z8, _⟩ := HE.nine
  unfold set9 at hW6
  have HW6 := Lib.hid hW6
  clear hW6 HE h4 hI4 hnm hnz hl4 hs4
  go_wp2_with fail
  rw [← HW6.out]
  exact bodyPost_ret (v := .tuple #[.agg #[.string S.nm, .slice A1 a1 c1, .slice A4 n4 c4, .slice none 0 0, .slice none 0 0, .int .i64 S.op, .int .i64 S.st, .int .i64 S.msk, .string S.dr], .int .i64 0]) (by simp [results, Tryz.results7, go_sem, z0, z1, z2, z3, z4, z5, z6, z7, z8]) rfl HF.out
end Go.Proofs.YtiapondfajmkaaaGreatDoor
