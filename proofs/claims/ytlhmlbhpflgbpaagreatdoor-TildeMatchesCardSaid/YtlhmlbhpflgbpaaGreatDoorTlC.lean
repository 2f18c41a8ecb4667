/- TildeMatches: Tilde. -/
import Derived.Test.YtlhmlbhpflgbpaaGreatDoorTlB
namespace Go.Proofs.YtlhmlbhpflgbpaaGreatDoor
open Go.RowKit

/-- a text whose tilde is replaced -/
def tildeL (L : List VarV) (t : ByteArray) : ByteArray := match nameOfT (t.extract 0 (headT t)) with
  | none => t
  | some nm => if hasV L nm = true then (getD L nm).vl ++ t.extract (headT t) t.size else t
def TildeP (L : List VarV) (t : ByteArray) (w : World) (e : Ending) (w' : World) : Prop := e = .returned (.string (tildeL L t)) ∧ Below w.heap.size w w'
set_option maxRecDepth 100000 in
set_option maxHeartbeats 3200000 in
theorem Tilde_any (S : ShV) (p : ShP) (t : ByteArray) (w : World) (hm : ShM w S p) (hs : Small S) (hdr : S.dr = ⟨#[47]⟩) (hok : okS S) (hil : ∀ v ∈ S.vs, v.il = false) (ht : t.size ≤ 1152921504606846976) (hvl : ∀ v ∈ S.vs, v.vl.size ≤ 1152921504606846976) :
    Calls Tryz.prog 7 #[.agg (cellsS S p), .string t] w (TildeP S.vs t w) := by
  obtain ⟨⟨arA, arn, arc⟩, ⟨vA, vn, vc⟩⟩ := p
  obtain rfl := SL.len hm.ar
  obtain rfl := (VL.at hm.vs).1
  obtain ⟨Q, hQ⟩ : ∃ Q, TildeP S.vs t w = Q := ⟨_, rfl⟩
  rw [hQ]
  have HQ := Lib.hid (fun e w' (h : TildeP S.vs t w e w') => (show Q e w' from hQ ▸ h))
  have HM := Lib.hid hm
  obtain ⟨bx, hbx⟩ : ∃ bx, bx = w.heap.size := ⟨_, rfl⟩
  obtain ⟨W0, hW0⟩ : ∃ W0, W0 = w.alloc (.cells #[.string S.nm, .slice arA S.ar.length arc, .slice vA S.vs.length vc, .slice none 0 0, .slice none 0 0, .int .i64 S.op, .int .i64 S.st, .int .i64 S.msk, .string S.dr] 28) := ⟨_, rfl⟩
  have HX0 : Hid (Blk W0 bx 28 #[.string S.nm, .slice arA S.ar.length arc, .slice vA S.vs.length vc, .slice none 0 0, .slice none 0 0, .int .i64 S.op, .int .i64 S.st, .int .i64 S.msk, .string S.dr]) := Lib.hid (by rw [hW0]; exact Blk.new w _ _ hbx.symm)
  have HB0 : Hid (Below w.heap.size w W0) := Lib.hid (by rw [hW0]; exact (Below.refl _ w).alloc (Nat.le_refl _) _)
  have HCK : Hid (Calls Tryz.prog 10 #[.agg #[.string S.nm, .slice arA S.ar.length arc, .slice vA S.vs.length vc, .slice none 0 0, .slice none 0 0, .int .i64 S.op, .int .i64 S.st, .int .i64 S.msk, .string S.dr]] W0 (CheckP S W0)) := Lib.hid (check_any S ⟨(arA, S.ar.length, arc), (vA, S.vs.length, vc)⟩ W0 (HM.out.keep HB0.out) hs hdr)
  have HBXE := Lib.hid hbx
  have HW0 := Lib.hid hW0
  have HOK := Lib.hid hok
  have HCU := Lib.hid (fun W => cut_any t W (by omega))
  have HTI := Lib.hid (fun tt b W hc hb hv => tilde_any S.vs tt vA S.vs.length vc b W hc hb hv hok.rises hs.vs hil)
  have HVL := Lib.hid (fun nm => (show (getD S.vs nm).vl.size ≤ 1152921504606846976 from by
    cases hh : hasV S.vs nm
    · rw [getD_no hh]; exact Nat.zero_le _
    · obtain ⟨hl, hge, _⟩ := getD_yes hh
      rw [hge]
      exact hvl _ (List.getElem_mem hl)))
  obtain ⟨h, hh⟩ : ∃ h, h = headT t := ⟨_, rfl⟩
  have hle : h ≤ t.size := by rw [hh]; exact headT_le t
  have hsz : (t.extract 0 h).size = h := by rw [ByteArray.size_extract]; omega
  have HH := Lib.hid hh
  clear hQ hm hs hdr hok hil hvl hbx hW0 hh
  show Calls _ _ #[.agg #[.string S.nm, .slice arA S.ar.length arc, .slice vA S.vs.length vc, .slice none 0 0, .slice none 0 0, .int .i64 S.op, .int .i64 S.st, .int .i64 S.msk, .string S.dr], .string t] w Q
  go_enter Tryz.func7, Tryz.ntmps7
  go_upto_region 1 with fail
  rw [← HBXE.out, ← HW0.out]
  obtain ⟨x0, x1, x2, x3, x4, x5, x6, x7, x8, xf⟩ := HX0.out.nine
  go_upto_region 3 with (go_at_call 10; refine HCK.out.mono ?_; rintro e w1 ⟨c, rfl, hc, hb1⟩; obtain rfl : c = 0 := hc.2 HOK.out; clear hc)
  have HX1 := Lib.hid (HX0.out.keep hb1)
  have HB1 := Lib.hid (HB0.out.trans (hb1.mono HB0.out.size))
  clear hb1 HX0 HB0 HCK x0 x1 x2 x3 x4 x5 x6 x7 x8 xf
  go_upto_region 4 with (go_at_call 13; refine (HCU.out _).mono ?_; rintro e w2 ⟨r2, f2, rfl, hb2⟩; rw [← HH.out])
  have HX2 := Lib.hid (HX1.out.keep hb2)
  have HB2 := Lib.hid (HB1.out.trans (hb2.mono HB1.out.size))
  clear hb2 HX1 HB1 HCU
  have HT2 := Lib.hid (HTI.out (t.extract 0 h) bx w2 (HX2.out.cell.1 2) HX2.out.lt (by have := (HM.out.keep HB2.out).vs; exact this))
  clear HTI
  go_upto_region 5 with (go_at_call 14; refine HT2.out.mono ?_; rintro e w3 ⟨r, f, rfl, hrf, hb3⟩)
  have HB3 := Lib.hid (HB2.out.trans (hb3.mono HB2.out.size))
  clear hb3 HT2 HX2 HB2
  cases hno : nameOfT (t.extract 0 h) with
  | none =>
    rw [hno] at hrf
    obtain ⟨rfl, rfl⟩ := hrf
    have HF := Lib.hid (HQ.out (.returned (.string t)) w3 ⟨by unfold tildeL; rw [← HH.out, hno], HB3.out⟩)
    clear hno
    go_wp2_with fail
    exact HF.out
  | some nm =>
    rw [hno] at hrf
    obtain ⟨rfl, rfl⟩ := hrf
    cases hhs : hasV S.vs nm
    · have HF := Lib.hid (HQ.out (.returned (.string t)) w3 ⟨by unfold tildeL; rw [← HH.out, hno]; simp [hhs], HB3.out⟩)
      clear hno hhs
      go_wp2_with fail
      exact HF.out
    · have HF := Lib.hid (HQ.out (.returned (.string ((getD S.vs nm).vl ++ t.extract h t.size))) w3 ⟨by unfold tildeL; rw [← HH.out, hno]; simp [hhs], HB3.out⟩)
      have hv1 := HVL.out nm
      clear HVL hno hhs
      generalize (getD S.vs nm).vl = rv at *
      have hz1 : (h : Int) ≤ (t.size : Int) := by omega
      have hz0 : (0 : Int) ≤ (h : Int) := by omega
      have hcat : ¬ 9223372036854775807 < rv.size + (t.size - h) := by omega
      have hrs : (t.extract h t.size).size = t.size - h := by rw [ByteArray.size_extract]; omega
      go_wp2_with fail
      exact HF.out
end Go.Proofs.YtlhmlbhpflgbpaaGreatDoor
