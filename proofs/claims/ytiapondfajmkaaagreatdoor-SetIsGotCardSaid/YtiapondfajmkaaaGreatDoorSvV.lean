/- Shell variables: change. -/
import Derived.Test.YtiapondfajmkaaaGreatDoorSvU
namespace Go.Proofs.YtiapondfajmkaaaGreatDoor
open Go.RowKit

set_option maxRecDepth 100000 in
theorem join_none (w : World) : Calls Tryz.prog 92 #[.slice none 0 0, .string ⟨#[]⟩] w fun e w' => e = .returned (.string ⟨#[]⟩) ∧ w = w' := by
  go_enter Tryz.func92, Tryz.ntmps92
  go_wp2_with fail
  go_ret
  exact ⟨rfl, rfl⟩
theorem cat_none (v : ByteArray) : v ++ ⟨#[]⟩ = v := ByteArray.append_empty
/-- all variables are let out -/
def outB (op : Int) : Bool := bits BinOp.and IntKind.i64 op 16 != 0
/-- a variable with another mark -/
def exV (x : VarV) (b : Bool) : VarV := { x with ex := b }
def plainV (n v : ByteArray) (b : Bool) : VarV := ⟨n, v, false, [], b, false⟩
def ChangeP (B b : Nat) (S : ShV) (A : SV) (n v : ByteArray) (o : Bool) (w : World) (e : Ending) (w' : World) : Prop :=
  ∃ c : Int, e = .returned (.int .i64 c) ∧ Part B b w w' ∧ (c = 0 → nameOK n ∧ noZ v ∧ (putS S (plainV n v o)).vs.length ≤ 200 ∧ sizeS (putS S (plainV n v o)) ≤ 65536 ∧ ∃ V P, InBox B b w' (putS S (plainV n v o)) A V P) ∧
    (c = 6 ↔ ¬ nameOK n) ∧ (c = 5 ↔ nameOK n ∧ ¬ noZ v) ∧ (c = 0 ∨ c = 2 ∨ c = 5 ∨ c = 6)
set_option maxRecDepth 100000 in
set_option maxHeartbeats 3200000 in
theorem change_any (B b : Nat) (S : ShV) (A V : SV) (P : List VE) (n v : ByteArray) (w : World) (h : InBox B b w S A V P) (hok : okS S) (h0 : 0 < S.vs.length) (hs : Small S) (hfx : ∀ v ∈ S.vs, v.fx = false) (hsz : n.size + v.size ≤ 1152921504606846976) :
    Calls Tryz.prog 58 #[.pointer (some ⟨b, 0, none⟩), .agg #[.string n, .string v, .bool false, .slice none 0 0, .bool false, .bool false]] w (ChangeP B b S A n v ((getD S.vs n).ex || outB S.op) w) := by
  obtain ⟨o, ho⟩ : ∃ o, o = ((getD S.vs n).ex || outB S.op) := ⟨_, rfl⟩
  rw [← ho]
  have HO := Lib.hid ho
  clear ho
  obtain ⟨Q, hQ⟩ : ∃ Q, ChangeP B b S A n v o w = Q := ⟨_, rfl⟩
  rw [hQ]
  have HQ := Lib.hid (fun e w' (h : ChangeP B b S A n v o w e w') => (show Q e w' from hQ ▸ h))
  clear hQ
  have HOK := Lib.hid hok
  have HS := Lib.hid hs
  have hr := hok.rises
  have hn := hok.vs
  have HI := Lib.hid h
  obtain ⟨AA, an, ac⟩ := A
  obtain ⟨VA, vn, vc⟩ := V
  have hvl := h.vo.vl
  rw [h.map] at hvl
  obtain ⟨W0, hW0⟩ : ∃ W0, W0 = w.alloc (.cells #[.string n, .string v, .bool false, .slice none 0 0, .bool false, .bool false] 32) := ⟨_, rfl⟩
  obtain ⟨v0, hv0⟩ : ∃ v0, v0 = w.heap.size := ⟨_, rfl⟩
  have HV0 := Lib.hid hv0
  have hb0 : Below w.heap.size w W0 := by rw [hW0]; exact (Below.refl _ w).alloc (Nat.le_refl _) _
  have HX0 : Hid (Blk W0 v0 32 #[.string n, .string v, .bool false, .slice none 0 0, .bool false, .bool false]) := Lib.hid (by rw [hW0]; exact Blk.new w _ _ hv0.symm)
  have HI0 := Lib.hid (h.keep hb0)
  have HB0 := Lib.hid hb0
  have HW0 := Lib.hid hW0
  have HG := Lib.hid (get_any S.vs n VA vn vc b W0 (HI0.out.blk.cell.1 2) (Nat.lt_of_lt_of_le HI0.out.lt HI0.out.le) (by have := HI0.out.vo.vl; rw [HI0.out.map] at this; exact this) hr (by omega))
  clear hb0 hW0 hv0 hvl h
  go_enter Tryz.func58, Tryz.ntmps58
  go_upto_region 1 with fail
  rw [← HV0.out, ← HW0.out]
  have x0 : W0.cell? ⟨v0, 0, none⟩ = some (.string n) := HX0.out.cell.1 0
  go_upto_region 2 with (go_at_call 18; refine HG.out.mono ?_; rintro e w1 ⟨⟨oA, on, oc⟩, rfl, hos, hb1⟩; unfold aggV sv)
  obtain ⟨b1, hbb1⟩ : ∃ b1, b1 = w1.heap.size := ⟨_, rfl⟩
  rw [← hbb1]
  obtain ⟨od, hod⟩ : ∃ od, od = getD S.vs n := ⟨_, rfl⟩
  rw [← hod] at hos ⊢
  have hodf : od.fx = false := by
    rw [hod]
    cases hh : hasV S.vs n
    · rw [getD_no hh]; rfl
    · obtain ⟨hl, hge, _⟩ := getD_yes hh
      rw [hge]
      exact hfx _ (List.getElem_mem hl)
  rw [hodf]
  obtain ⟨W1, hW1⟩ : ∃ W1, W1 = w1.alloc (.cells #[.string od.nm, .string od.vl, .bool od.il, .slice oA on oc, .bool od.ex, .bool false] 32) := ⟨_, rfl⟩
  rw [← hW1]
  have hb11 : Below w1.heap.size w1 W1 := by rw [hW1]; exact (Below.refl _ w1).alloc (Nat.le_refl _) _
  have HX1 := Lib.hid ((HX0.out.keep hb1).keep hb11)
  have HY1 : Hid (Blk W1 b1 32 #[.string od.nm, .string od.vl, .bool od.il, .slice oA on oc, .bool od.ex, .bool false]) := Lib.hid (by rw [hW1]; exact Blk.new w1 _ _ hbb1.symm)
  have HI1 := Lib.hid ((HI0.out.keep hb1).keep hb11)
  have HOS := Lib.hid (hos.keep hb11)
  have HB1 := Lib.hid ((HB0.out.trans (hb1.mono HB0.out.size)).trans (hb11.mono (Nat.le_trans HB0.out.size hb1.size)))
  have HOD := Lib.hid hod
  have HB1E := Lib.hid hbb1
  have HNE := Lib.hid (show v0 < b1 by rw [hbb1]; exact Nat.lt_of_lt_of_le HX0.out.lt hb1.size)
  have HODF := Lib.hid hodf
  clear hb11 hb1 hW1 hod hos hodf HX0 HI0 HB0 HG HW0 x0 hbb1
  obtain ⟨x0, x1, x2, x3, x4, x5, xf⟩ := HX1.out.six
  obtain ⟨y0, y1, y2, y3, y4, y5, yf⟩ := HY1.out.six
  have HNM := Lib.hid (isName_any n W1)
  generalize hasV S.vs n = hd at *
  rcases Classical.em (nameOK n) with hnm | hnm
  case inr =>
    have HF := Lib.hid (HQ.out (.returned (.int .i64 6)) W1 ⟨6, rfl, Part.below HB1.out HI.out.le, (fun e => by cases e), ⟨fun _ => hnm, fun _ => rfl⟩, ⟨(fun e => by cases e), (fun h => absurd h.1 hnm)⟩, by decide⟩)
    have HNO := Lib.hid hnm
    clear hnm
    go_wp2_with (go_at_call 32; refine HNM.out.mono ?_; rintro e w2 ⟨f, rfl, hf, hw2⟩; obtain rfl : f = false := Bool.eq_false_iff.2 (fun e => HNO.out (hf.1 e)); rw [hw2]; clear hf hw2)
    exact HF.out
  have HNO := Lib.hid hnm
  clear hnm
  go_upto_region 4 with (go_at_call 32; refine HNM.out.mono ?_; rintro e w2 ⟨f, rfl, hf, hw2⟩; obtain rfl : f = true := hf.2 HNO.out; rw [hw2]; clear hf hw2)
  clear HNM
  obtain ⟨ix, hix⟩ : ∃ ix, ix = Lib.indexByte v.data.toList 0 := ⟨_, rfl⟩
  have HIB := Lib.hid (fun W => (show Calls Tryz.prog 9 #[.string v, .int .u8 0] W fun e w' => e = .returned (.int .i64 ix) ∧ w' = W by
    have h := Tryz.strings_IndexByte v 0 W
    rw [hix]
    exact h))
  have HIX := Lib.hid hix
  clear hix
  have hvv : v ++ ⟨#[]⟩ = v := cat_none v
  have hvs : ¬ 9223372036854775807 < v.size := by omega
  have hS : W1.drew.cell? ⟨v0, 1, none⟩ = some (.string v) ∧ W1.drew.cell? ⟨v0, 3, none⟩ = some (.slice none 0 0) := ⟨x1, x3⟩
  refine wp_region_tail 8 (fun W => W.cell? ⟨v0, 1, none⟩ = some (.string v) ∧ W.cell? ⟨v0, 3, none⟩ = some (.slice none 0 0)) (by kernel_rfl) (by decide) ?_
  refine wpAnyT_take 99 0 (v := ?_) (by kernel_rfl) rfl (by kernel_rfl) (fun _ _ _ h => h) (Or.inl ⟨by rfl, fun W hW => ?_⟩) (by with_reducible assumption) ?_
  rotate_left
  focus ((try dsimp only at hW); go_simp; try with_reducible rfl)
  refine wpAnyT_take 99 1 (v := ?_) (by kernel_rfl) rfl (by kernel_rfl) (fun _ _ _ h => h) (Or.inl ⟨by rfl, fun W hW => ?_⟩) (by with_reducible assumption) ?_
  rotate_left
  focus ((try dsimp only at hW); go_simp; try with_reducible rfl)
  refine wpAnyT_take 99 2 (v := ?_) (by kernel_rfl) rfl (by kernel_rfl) (fun _ _ _ h => h) (Or.inl ⟨by rfl, fun W hW => ?_⟩) (by with_reducible assumption) ?_
  rotate_left
  focus ((try dsimp only at hW); go_simp; try with_reducible rfl)
  refine wpAnyT_take 99 3 (v := ?_) (by kernel_rfl) rfl (by kernel_rfl) (fun _ _ _ h => h) (Or.inl ⟨by rfl, fun W hW => ?_⟩) (by with_reducible assumption) ?_
  rotate_left
  focus ((try dsimp only at hW); go_simp; try with_reducible rfl)
  simp only [Act.put, List.getElem_toArray, List.getElem_cons_zero, List.getElem_cons_succ, List.setIfInBounds_toArray, List.set_cons_zero, List.set_cons_succ]
  refine wpAnyT_one 4 (by kernel_rfl) (by decide) ?_
  refine wpOp_at rfl rfl (fun K hK => ?_)
  go_simp
  refine (join_none _).mono ?_
  rintro e w3 ⟨rfl, rfl⟩
  refine hK.out _ _ ⟨hS, ?_⟩
  clear hK K
  refine wpAnyT_take 99 5 (v := ?_) (by kernel_rfl) rfl (by kernel_rfl) (fun _ _ _ h => h) (Or.inl ⟨by rfl, fun W hW => ?_⟩) (by with_reducible assumption) ?_
  rotate_left
  focus ((try dsimp only at hW); go_simp; try with_reducible rfl)
  refine wpAnyT_one 6 (by kernel_rfl) (by decide) ?_
  refine wpOp_at rfl rfl (fun K hK => ?_)
  go_simp
  refine (HIB.out _).mono ?_
  rintro e w3 ⟨rfl, hw3⟩
  rw [hw3]
  clear hw3
  refine hK.out _ _ ⟨hS, ?_⟩
  clear hK K HIB
  refine wpAnyT_take 99 7 (v := ?_) (by kernel_rfl) rfl (by kernel_rfl) (fun _ _ _ h => h) (Or.inl ⟨by rfl, fun W hW => ?_⟩) (by with_reducible assumption) ?_
  rotate_left
  focus ((try dsimp only at hW); go_simp; try with_reducible rfl)
  refine ⟨by kernel_rfl, ?_⟩
  simp only [List.drop_succ_cons, List.drop_zero]
  have hd1 : Below W1.heap.size W1 W1.drew := (Below.refl _ W1).drew
  have HX2 := Lib.hid (HX1.out.keep hd1)
  have HY2 := Lib.hid (HY1.out.keep hd1)
  have HI2 := Lib.hid (HI1.out.keep hd1)
  have HOS2 := Lib.hid (HOS.out.keep hd1)
  have HB2 := Lib.hid (HB1.out.trans (hd1.mono HB1.out.size))
  generalize W1.drew = W2 at *
  clear hd1 HX1 HY1 HI1 HOS HB1 hS x0 x1 x2 x3 x4 x5 xf y0 y1 y2 y3 y4 y5 yf hvv hvs
  by_cases hz : 0 ≤ ix
  case pos =>
    have hzz : ix ≥ 0 := hz
    have hzd : decide (ix ≥ 0) = true := decide_eq_true hz
    have HF := Lib.hid (HQ.out (.returned (.int .i64 5)) W2 ⟨5, rfl, Part.below HB2.out HI.out.le, (fun e => by cases e), ⟨(fun e => by cases e), (fun h => absurd HNO.out h)⟩, ⟨fun _ => ⟨HNO.out, fun h => h (by rw [← HIX.out]; exact hz)⟩, fun _ => rfl⟩, by decide⟩)
    go_wp2_with fail
    exact HF.out
  have hzz : ¬ ix ≥ 0 := hz
  have hzd : decide (ix ≥ 0) = false := decide_eq_false hz
  have HZ := Lib.hid (show noZ v by unfold noZ; rw [← HIX.out]; exact hz)
  obtain ⟨x0, x1, x2, x3, x4, x5, xf⟩ := HX2.out.six
  obtain ⟨y0, y1, y2, y3, y4, y5, yf⟩ := HY2.out.six
  have b5 : W2.cell? ⟨b, 5, none⟩ = some (.int .i64 S.op) := HI2.out.blk.cell.1 5
  clear hz
  go_upto_region 8 with fail
  go_cut [] (fun wx => Hid (wx = W2.setCell ⟨v0, 4, none⟩ (.bool o)))
  case first =>
    cases he : od.ex
    · have hob : (bits BinOp.and IntKind.i64 S.op 16 != 0) = o := by
        rw [HO.out, ← HOD.out, he]
        rfl
      rw [he] at y4
      go_wp2_with fail
      go_meet
      case rel => exact Lib.hid rfl
    · obtain rfl : o = true := by
        rw [HO.out, ← HOD.out, he]
        rfl
      rw [he] at y4
      go_wp2_with fail
      go_meet
      case rel => exact Lib.hid rfl
  case rest =>
    have hwc := hcut.out
    clear hcut
    have hv0w : w.heap.size ≤ v0 := by rw [HV0.out]; exact Nat.le_refl _
    have hrow : (sv (VA, vn, vc)).ownBlock ≠ some v0 := fun e => by
      have := (HI.out.vo.own.lt v0 e).2
      omega
    have hrow1 : (sv (VA, vn, vc)).ownBlock ≠ some b1 := fun e => by
      have h1 := (HI.out.vo.own.lt b1 e).2
      have h2 := HNE.out
      omega
    have hvb : v0 ≠ b := by
      have h1 := HI.out.lt
      have h2 := HI.out.le
      omega
    have hb1b : b1 ≠ b := by
      have h1 := HI.out.lt
      have h2 := HI.out.le
      have h3 := HNE.out
      omega
    have HX3 : Hid (Blk wc v0 32 #[.string n, .string v, .bool false, .slice none 0 0, .bool o, .bool false]) := Lib.hid (by rw [hwc]; exact HX2.out.set_ 4 _)
    have HY3 := Lib.hid (show Blk wc b1 32 #[.string od.nm, .string od.vl, .bool od.il, .slice oA on oc, .bool od.ex, .bool false] by rw [hwc]; exact HY2.out.far (by have := HNE.out; exact fun e => by simp only [] at e; omega) _)
    have HI3 := Lib.hid (show InBox B b wc S (AA, an, ac) (VA, vn, vc) P by rw [hwc]; exact HI2.out.far HX2.out (by decide) hvb hrow 4 _)
    have HOS3 := Lib.hid (show SL wc (sv (oA, on, oc)) od.ls by rw [hwc]; exact HOS2.out.keepT (KeepT.setCell HX2.out (by decide) 4 _))
    have HB3 := Lib.hid (show Below w.heap.size w wc by rw [hwc]; exact HB2.out.setCell hv0w _)
    obtain ⟨xv, hxv⟩ : ∃ xv, xv = plainV n v o := ⟨_, rfl⟩
    have HXV := Lib.hid hxv
    have HPUT : Hid (Calls Tryz.prog 93 #[.pointer (some ⟨b, 0, none⟩), .agg #[.string n, .string v, .bool false, .slice none 0 0, .bool o, .bool false]] wc (PutP B b S (AA, an, ac) (VA, vn, vc) xv wc)) := Lib.hid (by
      have := put_any B b S (AA, an, ac) (VA, vn, vc) P xv (none, 0, 0) wc HI3.out hr h0 (by omega) (by rw [hxv]; exact SL.empty _)
      rw [hxv] at this ⊢
      exact this)
    have HSM := Lib.hid (show Small (putS S xv) from Small.put hs (by rw [hxv]; unfold sizeV plainV sumS; simp; omega) (by have := hok.sz; omega) (by rw [hxv]; exact Nat.zero_le _) (by omega))
    have HR4 := Lib.hid (show Rises (putS S xv).vs from Rises.of_pair (setV_pair hr.pair xv))
    have HL4 := Lib.hid (show 0 < (putS S xv).vs.length ∧ (putS S xv).vs.length ≤ 201 from ⟨List.length_pos_of_mem (setV_mem S.vs xv), by have := setV_len S.vs xv; show (setV S.vs xv).length ≤ 201; omega⟩)
    clear hwc hxv HX2 HY2 HI2 HOS2 HB2 x0 x1 x2 x3 x4 x5 xf y0 y1 y2 y3 y4 y5 yf b5 hok hs hr h0 hn hfx hzz hzd
    obtain ⟨x0, x1, x2, x3, x4, x5, xf⟩ := HX3.out.six
    obtain ⟨y0, y1, y2, y3, y4, y5, yf⟩ := HY3.out.six
    go_upto_region 10 with (go_at_call 93; refine HPUT.out.mono ?_; rintro e w4 ⟨rfl, ⟨⟨VA4, vn4, vc4⟩, P4, hI4⟩, hp4, hk4, hfr⟩)
    have hv0l : v0 < wc.heap.size := HX3.out.lt
    have hb1l : b1 < wc.heap.size := HY3.out.lt
    have HX4 : Hid (Blk w4 v0 32 #[.string n, .string v, .bool false, .slice none 0 0, .bool o, .bool false]) := Lib.hid ((hfr v0 hv0l hvb hrow).trans HX3.out)
    have HY4 : Hid (Blk w4 b1 32 #[.string od.nm, .string od.vl, .bool od.il, .slice oA on oc, .bool od.ex, .bool false]) := Lib.hid ((hfr b1 hb1l hb1b hrow1).trans HY3.out)
    have HI4 := Lib.hid hI4
    have HOS4 := Lib.hid (HOS3.out.keepT hk4)
    have HP4 := Lib.hid (show Part B b w w4 from (Part.below HB3.out HI.out.le).trans hp4)
    have HFT := Lib.hid (fits_any B b (putS S xv) (AA, an, ac) (VA4, vn4, vc4) P4 w4 hI4 HSM.out)
    clear hfr hI4 hp4 hk4 x0 x1 x2 x3 x4 x5 xf y0 y1 y2 y3 y4 y5 yf HX3 HY3 HI3 HOS3 HB3 HPUT hrow hrow1 hvb hb1b hv0l hb1l hv0w
    rcases Classical.em ((putS S xv).vs.length ≤ 200 ∧ sizeS (putS S xv) ≤ 65536) with hft | hft
    · have HFt := Lib.hid hft
      clear hft
      go_wp2_with (go_at_call 94; refine HFT.out.mono ?_; rintro e w5 ⟨f, rfl, hf, hb5⟩; obtain rfl : f = true := hf.2 HFt.out; have HF := Lib.hid (HQ.out (.returned (.int .i64 0)) w5 ⟨0, rfl, HP4.out.trans (Part.below hb5 HI4.out.le), (fun _ => ⟨HNO.out, HZ.out, by rw [← HXV.out]; exact HFt.out.1, by rw [← HXV.out]; exact HFt.out.2, (VA4, vn4, vc4), P4, by rw [← HXV.out]; exact HI4.out.keep hb5⟩), ⟨(fun e => by cases e), (fun h => absurd HNO.out h)⟩, ⟨(fun e => by cases e), (fun h => absurd HZ.out h.2)⟩, by decide⟩); clear hf hb5)
      exact HF.out
    · have HFt := Lib.hid hft
      clear hft
      have HE := Lib.hid (fun w6 (h : Part B b w w6) => HQ.out (.returned (.int .i64 2)) w6 ⟨2, rfl, h, (fun e => by cases e), ⟨(fun e => by cases e), (fun h => absurd HNO.out h)⟩, ⟨(fun e => by cases e), (fun h => absurd HZ.out h.2)⟩, by decide⟩)
      go_upto_region 11 with (go_at_call 94; refine HFT.out.mono ?_; rintro e w5 ⟨f, rfl, hf, hb5⟩; obtain rfl : f = false := Bool.eq_false_iff.2 (fun h => HFt.out (hf.1 h)); clear hf)
      have HX5 := Lib.hid (HX4.out.keep hb5)
      have HY5 := Lib.hid (HY4.out.keep hb5)
      have HI5 := Lib.hid (HI4.out.keep hb5)
      have HOS5 := Lib.hid (HOS4.out.keep hb5)
      have HP5 := Lib.hid (HP4.out.trans (Part.below hb5 HI4.out.le))
      clear hb5 HX4 HY4 HI4 HOS4 HP4 HFT
      obtain ⟨x0, x1, x2, x3, x4, x5, xf⟩ := HX5.out.six
      obtain ⟨y0, y1, y2, y3, y4, y5, yf⟩ := HY5.out.six
      cases hd
      · have HDR := Lib.hid (drop_any B b (putS S xv) (AA, an, ac) (VA4, vn4, vc4) P4 n w5 HI5.out HR4.out HL4.out.1 (by have := HL4.out.2; omega))
        go_wp2_with (go_at_call 95; refine HDR.out.mono ?_; rintro e w6 ⟨rfl, hp6⟩)
        exact HE.out _ (HP5.out.trans hp6)
      · have HPU : Hid (Calls Tryz.prog 93 #[.pointer (some ⟨b, 0, none⟩), .agg #[.string od.nm, .string od.vl, .bool od.il, .slice oA on oc, .bool od.ex, .bool false]] w5 (PutP B b (putS S xv) (AA, an, ac) (VA4, vn4, vc4) od w5)) := Lib.hid (by
          have := put_any B b (putS S xv) (AA, an, ac) (VA4, vn4, vc4) P4 od (oA, on, oc) w5 HI5.out HR4.out HL4.out.1 (by have := HL4.out.2; omega) HOS5.out
          unfold aggV sv at this
          rw [HODF.out] at this
          exact this)
        go_wp2_with (go_at_call 93; refine HPU.out.mono ?_; rintro e w6 ⟨rfl, _, hp6, _, _⟩)
        exact HE.out _ (HP5.out.trans hp6)
end Go.Proofs.YtiapondfajmkaaaGreatDoor
