/- TildeMatches, the reference: Tilde and TildeOf. -/
import Derived.Test.YtlhmlbhpflgbpaaGreatDoorTlY
namespace Go.Proofs.YtlhmlbhpflgbpaaGreatDoor
open Go.RowKit

set_option maxRecDepth 100000 in
set_option maxHeartbeats 3200000 in
theorem rTilde_any (L : List VarV) (t : ByteArray) (A : Option Addr) (n c b : Nat) (w : World) (hc : w.cell? ⟨b, 2, none⟩ = some (.slice A n c)) (hb : b < w.heap.size) (hv : VL w (.slice A n c) L) (hr : Rises L) (hn : L.length ≤ 2000) (hil : ∀ v ∈ L, v.il = false) (hs : t.size ≤ 1152921504606846976) (hvl : ∀ v ∈ L, v.vl.size ≤ 1152921504606846976) :
    Calls Tryz.prog 16 #[.pointer (some ⟨b, 0, none⟩), .string t] w (TildeP L t w) := by
  obtain ⟨Q, hQ⟩ : ∃ Q, TildeP L t w = Q := ⟨_, rfl⟩
  rw [hQ]
  have HQ := Lib.hid (fun e w' (h : TildeP L t w e w') => (show Q e w' from hQ ▸ h))
  have HT := Lib.hid (rtilde_any L t A n c b w hc hb hv hr hn hil (by omega))
  have HVL := Lib.hid (fun nm => (show (getD L nm).vl.size ≤ 1152921504606846976 from by
    cases hh : hasV L nm
    · rw [getD_no hh]; exact Nat.zero_le _
    · obtain ⟨hl, hge, _⟩ := getD_yes hh
      rw [hge]
      exact hvl _ (List.getElem_mem hl)))
  have HS := Lib.hid hs
  have hle := headT_le t
  clear hQ hc hb hv hr hn hil hs hvl
  go_enter Tryz.func16, Tryz.ntmps16
  go_upto_region 2 with (go_at_call 54; refine HT.out.mono ?_; rintro e w1 ⟨a, r, f, rfl, hrf, hb1⟩)
  have HB1 := Lib.hid hb1
  clear hb1 HT
  cases hno : nameOfT (t.extract 0 (headT t)) with
  | none =>
    rw [hno] at hrf
    obtain rfl := hrf
    have HF := Lib.hid (HQ.out (.returned (.string t)) w1 ⟨by unfold tildeL; rw [hno], HB1.out⟩)
    clear hno
    go_wp2_with fail
    exact HF.out
  | some nm =>
    rw [hno] at hrf
    cases hhs : hasV L nm
    · simp only [hhs, Bool.false_eq_true, if_false] at hrf
      obtain rfl := hrf
      have HF := Lib.hid (HQ.out (.returned (.string t)) w1 ⟨by unfold tildeL; rw [hno]; simp [hhs], HB1.out⟩)
      clear hno hhs
      go_wp2_with fail
      exact HF.out
    · simp only [hhs, if_true] at hrf
      obtain ⟨rfl, rfl, rfl⟩ := hrf
      have HF := Lib.hid (HQ.out (.returned (.string ((getD L nm).vl ++ t.extract (headT t) t.size))) w1 ⟨by unfold tildeL; rw [hno]; simp [hhs], HB1.out⟩)
      have hv1 := HVL.out nm
      have hs2 := HS.out
      clear HVL hno hhs
      generalize (getD L nm).vl = rv at *
      generalize headT t = h at *
      have hcat : ¬ 9223372036854775807 < rv.size + (t.size - h) := by omega
      have hrs : (t.extract h t.size).size = t.size - h := by rw [ByteArray.size_extract]; omega
      go_wp2_with fail
      exact HF.out
set_option maxRecDepth 100000 in
set_option maxHeartbeats 3200000 in
theorem tildeOf_any (S : ShV) (p : ShP) (t : ByteArray) (w : World) (hm : ShM w S p) (hs : Small S) (hr : Rises S.vs) (hil : ∀ v ∈ S.vs, v.il = false) (ht : t.size ≤ 1152921504606846976) (hvl : ∀ v ∈ S.vs, v.vl.size ≤ 1152921504606846976) :
    Calls Tryz.prog 8 #[.agg (cellsS S p), .string t] w (TildeP S.vs t w) := by
  obtain ⟨⟨arA, arn, arc⟩, ⟨vA, vn, vc⟩⟩ := p
  obtain rfl := SL.len hm.ar
  obtain rfl := (VL.at hm.vs).1
  obtain ⟨Q, hQ⟩ : ∃ Q, TildeP S.vs t w = Q := ⟨_, rfl⟩
  rw [hQ]
  have HQ := Lib.hid (fun e w' (h : TildeP S.vs t w e w') => (show Q e w' from hQ ▸ h))
  obtain ⟨bx, hbx⟩ : ∃ bx, bx = w.heap.size := ⟨_, rfl⟩
  obtain ⟨W0, hW0⟩ : ∃ W0, W0 = w.alloc (.cells #[.string S.nm, .slice arA S.ar.length arc, .slice vA S.vs.length vc, .slice none 0 0, .slice none 0 0, .int .i64 S.op, .int .i64 S.st, .int .i64 S.msk, .string S.dr] 28) := ⟨_, rfl⟩
  have HX0 : Hid (Blk W0 bx 28 #[.string S.nm, .slice arA S.ar.length arc, .slice vA S.vs.length vc, .slice none 0 0, .slice none 0 0, .int .i64 S.op, .int .i64 S.st, .int .i64 S.msk, .string S.dr]) := Lib.hid (by rw [hW0]; exact Blk.new w _ _ hbx.symm)
  have HB0 : Hid (Below w.heap.size w W0) := Lib.hid (by rw [hW0]; exact (Below.refl _ w).alloc (Nat.le_refl _) _)
  have HBA : Hid (Calls Tryz.prog 15 #[.agg #[.string S.nm, .slice arA S.ar.length arc, .slice vA S.vs.length vc, .slice none 0 0, .slice none 0 0, .int .i64 S.op, .int .i64 S.st, .int .i64 S.msk, .string S.dr], .pointer none, .agg #[.int .i64 0, .int .i64 0, .slice none 0 0], .int .i64 0, .agg #[.nilFunc, .nilFunc, .nilFunc]] W0 (BareP S.vs W0)) := Lib.hid (bare_any S ⟨(arA, S.ar.length, arc), (vA, S.vs.length, vc)⟩ W0 (hm.keep HB0.out) hs)
  have HTI := Lib.hid (fun A n c b W hc hb hv => rTilde_any S.vs t A n c b W hc hb hv hr hs.vs hil ht hvl)
  have HBXE := Lib.hid hbx
  have HWE := Lib.hid hW0
  clear hQ hm hs hr hil ht hvl hbx hW0
  show Calls _ _ #[.agg #[.string S.nm, .slice arA S.ar.length arc, .slice vA S.vs.length vc, .slice none 0 0, .slice none 0 0, .int .i64 S.op, .int .i64 S.st, .int .i64 S.msk, .string S.dr], .string t] w Q
  go_enter Tryz.func8, Tryz.ntmps8
  go_upto_region 1 with fail
  rw [← HBXE.out, ← HWE.out]
  obtain ⟨x0, x1, x2, x3, x4, x5, x6, x7, x8, xf⟩ := HX0.out.nine
  go_upto_region 2 with (go_at_call 15; refine HBA.out.mono ?_; rintro e w1 ⟨r, A, n, c, rfl, hc1, hl1, hv1, hb1⟩)
  have HT := Lib.hid (HTI.out A n c r w1 hc1 hl1 hv1)
  have HB1 := Lib.hid (HB0.out.trans (hb1.mono HB0.out.size))
  clear hc1 hl1 hv1 hb1 HTI HBA x0 x1 x2 x3 x4 x5 x6 x7 x8 xf HX0
  unfold TildeP at HT
  go_wp2_with (go_at_call 16; refine HT.out.mono ?_; rintro e w2 ⟨rfl, hb2⟩)
  exact HQ.out _ _ ⟨rfl, HB1.out.trans (hb2.mono HB1.out.size)⟩
end Go.Proofs.YtlhmlbhpflgbpaaGreatDoor
