/- Arithmetic expressions: the reference's showExpr of two and three arguments. -/
import Derived.Test.YtiigclkebnmopaaGreatDoorArRPr
namespace Go.Proofs.YtiigclkebnmopaaGreatDoor
open Go.RowKit Go.Shelf

set_option maxRecDepth 100000 in
set_option maxHeartbeats 3200000 in
theorem rshow_three (P : Nat → Prop) (n : Int) (nm : List UInt8) (y0 y1 y2 : Ex) (hy0 : (shi y0).length ≤ 1000000) (hy1 : (shi y1).length ≤ 1000000) (hy2 : (shi y2).length ≤ 1000000) (IH0 : RS P y0 true) (IH1 : RS P y1 true) (IH2 : RS P y2 true) : RS P (.mk [63] n nm [y0, y1, y2]) false := by
  intro v w hx hp
  obtain ⟨op, hop⟩ : ∃ op, ([63] : List UInt8) = op := ⟨_, rfl⟩
  rw [hop] at hx
  obtain ⟨A, c, rfl, _, hA⟩ := hx.parts
  have HOp := Lib.hid hop.symm
  have f0 : ((toB op).toList == [110]) = false := by rw [toB_toList, HOp.out]; rfl
  have f1 : ((toB op).toList == [118]) = false := by rw [toB_toList, HOp.out]; rfl
  have f2 : ((toB op).toList == [101]) = false := by rw [toB_toList, HOp.out]; rfl
  have f3 : ((toB op).toList == [117, 45]) = false := by rw [toB_toList, HOp.out]; rfl
  have f4 : ((toB op).toList == [117, 43]) = false := by rw [toB_toList, HOp.out]; rfl
  have f5 : ((toB op).toList == [33]) = false := by rw [toB_toList, HOp.out]; rfl
  have f6 : ((toB op).toList == [126]) = false := by rw [toB_toList, HOp.out]; rfl
  have f7 : ((toB op).toList == [43, 43, 118]) = false := by rw [toB_toList, HOp.out]; rfl
  have f8 : ((toB op).toList == [45, 45, 118]) = false := by rw [toB_toList, HOp.out]; rfl
  have f9 : ((toB op).toList == [118, 43, 43]) = false := by rw [toB_toList, HOp.out]; rfl
  have f10 : ((toB op).toList == [118, 45, 45]) = false := by rw [toB_toList, HOp.out]; rfl
  have f11 : ((toB op).toList == [63]) = true := by rw [toB_toList, HOp.out]; rfl
  rw [if_neg (by decide), show shw (.mk [63] n nm [y0, y1, y2]) = shi y0 ++ 32 :: 63 :: 32 :: (shi y1 ++ 32 :: 58 :: 32 :: shi y2) from rfl]
  have hszO : (toB op).size = 1 := by rw [toB_size, HOp.out]; rfl
  have ba := (Below.refl w.heap.size w).alloc (Nat.le_refl _) (.cells #[.string (toB op), .int .i64 n, .string (toB nm), .slice A [y0, y1, y2].length c] 25)
  have HB := Lib.hid ba
  have F := Lib.hid (Four.new w (.string (toB op)) (.int .i64 n) (.string (toB nm)) (.slice A [y0, y1, y2].length c))
  obtain ⟨g, off, rfl, _, hg, hL⟩ := hA.below ba (by simp)
  obtain ⟨v0, v1, v2, v3, p00, p01, p02, p03, hx0⟩ := ex0 hL
  obtain ⟨n0, A0, k0, z0, nm0, hv, hq⟩ := hx0.form
  simp only [Value.agg.injEq, Array.mk.injEq, List.cons.injEq, and_true] at hv
  clear hq
  obtain ⟨rfl, rfl, rfl, rfl⟩ := hv
  have HI0 := Lib.hid (fun W (hb : Below (w.alloc (.cells #[.string (toB op), .int .i64 n, .string (toB nm), .slice (some ⟨g, off, none⟩) [y0, y1, y2].length c] 25)).heap.size (w.alloc (.cells #[.string (toB op), .int .i64 n, .string (toB nm), .slice (some ⟨g, off, none⟩) [y0, y1, y2].length c] 25)) W) => IH0 _ W (hx0.below hb) ((hp.keep ba).keep hb))
  rw [if_pos rfl] at HI0
  have hL0 := ex1 hL
  obtain ⟨v0, v1, v2, v3, p10, p11, p12, p13, hx1⟩ := ex0 hL0
  obtain ⟨n1, A1, k1, z1, nm1, hv, hq⟩ := hx1.form
  simp only [Value.agg.injEq, Array.mk.injEq, List.cons.injEq, and_true] at hv
  clear hq
  obtain ⟨rfl, rfl, rfl, rfl⟩ := hv
  have HI1 := Lib.hid (fun W (hb : Below (w.alloc (.cells #[.string (toB op), .int .i64 n, .string (toB nm), .slice (some ⟨g, off, none⟩) [y0, y1, y2].length c] 25)).heap.size (w.alloc (.cells #[.string (toB op), .int .i64 n, .string (toB nm), .slice (some ⟨g, off, none⟩) [y0, y1, y2].length c] 25)) W) => IH1 _ W (hx1.below hb) ((hp.keep ba).keep hb))
  rw [if_pos rfl] at HI1
  have hL1 := ex1 hL0
  obtain ⟨v0, v1, v2, v3, p20, p21, p22, p23, hx2⟩ := ex0 hL1
  obtain ⟨n2, A2, k2, z2, nm2, hv, hq⟩ := hx2.form
  simp only [Value.agg.injEq, Array.mk.injEq, List.cons.injEq, and_true] at hv
  clear hq
  obtain ⟨rfl, rfl, rfl, rfl⟩ := hv
  have HI2 := Lib.hid (fun W (hb : Below (w.alloc (.cells #[.string (toB op), .int .i64 n, .string (toB nm), .slice (some ⟨g, off, none⟩) [y0, y1, y2].length c] 25)).heap.size (w.alloc (.cells #[.string (toB op), .int .i64 n, .string (toB nm), .slice (some ⟨g, off, none⟩) [y0, y1, y2].length c] 25)) W) => IH2 _ W (hx2.below hb) ((hp.keep ba).keep hb))
  rw [if_pos rfl] at HI2
  rw [show off + 4 = off + 1 * 4 by omega] at p10 p11 p12 p13
  rw [show off + 4 + 4 = off + 2 * 4 by omega] at p20 p21 p22 p23
  generalize shi y0 = T0 at *
  have hszT0 := toB_size T0
  generalize shi y1 = T1 at *
  have hszT1 := toB_size T1
  generalize shi y2 = T2 at *
  have hszT2 := toB_size T2
  clear ba hx hop hp hA hL hx0 IH0 hx1 IH1 hx2 IH2 hL0 hL1
  have hk1 : ¬ 9223372036854775807 < T0.length + 3 := by omega
  have hk2 : ¬ 9223372036854775807 < T0.length + 3 + T1.length := by omega
  have hk3 : ¬ 9223372036854775807 < T0.length + 3 + T1.length + 3 := by omega
  have hk4 : ¬ 9223372036854775807 < T0.length + 3 + T1.length + 3 + T2.length := by omega
  go_enter Tryz.func41, Tryz.ntmps41
  obtain ⟨c0, c1, c2, c3, cf⟩ := F.out.cells
  go_upto_region 14 with fail
  generalize w.alloc (.cells #[.string (toB op), .int .i64 n, .string (toB nm), .slice (some ⟨g, off, none⟩) [y0, y1, y2].length c] 25) = w1 at *
  generalize y0.op = op0 at *
  generalize y1.op = op1 at *
  generalize y2.op = op2 at *
  have HAc := Lib.hid (show ∀ W, Below w1.heap.size w1 W → (W.cell? ⟨g, off + 1 * 4, none⟩ = some (.string (toB op1)) ∧ W.cell? ⟨g, off + 1 * 4 + 1, none⟩ = some (.int .i64 n1) ∧ W.cell? ⟨g, off + 1 * 4 + 2, none⟩ = some (.string (toB nm1)) ∧ W.cell? ⟨g, off + 1 * 4 + 3, none⟩ = some (.slice A1 k1 z1)) ∧ (W.cell? ⟨g, off + 2 * 4, none⟩ = some (.string (toB op2)) ∧ W.cell? ⟨g, off + 2 * 4 + 1, none⟩ = some (.int .i64 n2) ∧ W.cell? ⟨g, off + 2 * 4 + 2, none⟩ = some (.string (toB nm2)) ∧ W.cell? ⟨g, off + 2 * 4 + 3, none⟩ = some (.slice A2 k2 z2)) from fun W hb => ⟨⟨(hb.cell (p := ⟨g, off + 1 * 4, none⟩) hg).trans p10, (hb.cell (p := ⟨g, off + 1 * 4 + 1, none⟩) hg).trans p11, (hb.cell (p := ⟨g, off + 1 * 4 + 2, none⟩) hg).trans p12, (hb.cell (p := ⟨g, off + 1 * 4 + 3, none⟩) hg).trans p13⟩, (hb.cell (p := ⟨g, off + 2 * 4, none⟩) hg).trans p20, (hb.cell (p := ⟨g, off + 2 * 4 + 1, none⟩) hg).trans p21, (hb.cell (p := ⟨g, off + 2 * 4 + 2, none⟩) hg).trans p22, (hb.cell (p := ⟨g, off + 2 * 4 + 3, none⟩) hg).trans p23⟩)
  go_wp2_with fail
  refine (HI0.out _ (Below.refl _ _)).mono ?_
  rintro e wa ⟨rfl, hba⟩
  obtain ⟨⟨q10, q11, q12, q13⟩, q20, q21, q22, q23⟩ := HAc.out wa hba
  have hga : g < wa.heap.size := Nat.lt_of_lt_of_le hg hba.size
  obtain ⟨d0, d1, d2, d3, df⟩ := (Four.keep F.out hba).cells
  have HA := Lib.hid (show ∀ W, Below wa.heap.size wa W → (W.cell? ⟨g, off + 1 * 4, none⟩ = some (.string (toB op1)) ∧ W.cell? ⟨g, off + 1 * 4 + 1, none⟩ = some (.int .i64 n1) ∧ W.cell? ⟨g, off + 1 * 4 + 2, none⟩ = some (.string (toB nm1)) ∧ W.cell? ⟨g, off + 1 * 4 + 3, none⟩ = some (.slice A1 k1 z1)) ∧ (W.cell? ⟨g, off + 2 * 4, none⟩ = some (.string (toB op2)) ∧ W.cell? ⟨g, off + 2 * 4 + 1, none⟩ = some (.int .i64 n2) ∧ W.cell? ⟨g, off + 2 * 4 + 2, none⟩ = some (.string (toB nm2)) ∧ W.cell? ⟨g, off + 2 * 4 + 3, none⟩ = some (.slice A2 k2 z2)) from fun W hb => HAc.out W (hba.trans (hb.mono hba.size)))
  have HJ1 := Lib.hid (fun W (hb : Below wa.heap.size wa W) => HI1.out W (hba.trans (hb.mono hba.size)))
  have HJ2 := Lib.hid (fun W (hb : Below wa.heap.size wa W) => HI2.out W (hba.trans (hb.mono hba.size)))
  have HBa := Lib.hid (HB.out.trans (hba.mono HB.out.size))
  have Fa := Lib.hid (Four.keep F.out hba)
  clear hba c0 c1 c2 c3 cf p00 p01 p02 p03 p10 p11 p12 p13 p20 p21 p22 p23 HI0 HI1 HI2 HAc HB F hg
  go_upto_region 29 with fail
  go_region_law (first
    | (have hzz := HW2.out; clear hzz; go_simp; go_at_call 41; refine (HJ2.out _ ?hc).mono ?_; (case hc => first | exact HW2.out | exact HW2.out.drew); rintro e w3 ⟨rfl, hb0⟩; have hb3 : Below wa.heap.size wa w3 := (by first | exact HW2.out.drew.trans (hb0.mono HW2.out.size) | exact HW2.out.trans (hb0.mono HW2.out.size)); have HB3 := Lib.hid (HBa.out.trans (hb3.mono HBa.out.size)); clear hb3 hb0)
    | (go_simp; go_at_call 41; refine (HJ1.out _ ?hb).mono ?_; (case hb => first | exact (Below.refl _ _) | exact (Below.refl _ _).drew); rintro e w2 ⟨rfl, hb0⟩; have hb2 : Below wa.heap.size wa w2 := (by first | exact (Below.refl _ wa).drew.trans hb0 | exact hb0); have HB2 := Lib.hid (HBa.out.trans (hb2.mono HBa.out.size)); have HW2 := Lib.hid hb2; have HA2 := Lib.hid (HA.out w2 hb2); obtain ⟨e10, e11, e12, e13⟩ := HA2.out.1; obtain ⟨e20, e21, e22, e23⟩ := HA2.out.2; obtain ⟨d0, d1, d2, d3, df⟩ := (Four.keep Fa.out hb2).cells; clear hb2 hb0))
  all_goals
    go_wp2_with fail
    go_ret
    refine ⟨ret_tx ?_, HB3.out⟩
    show toB T0 ++ toB [32, 63, 32] ++ toB T1 ++ toB [32, 58, 32] ++ toB T2 = _
    rw [toB_app, toB_app, toB_app, toB_app]
    congr 1
    simp

theorem two_ne : ∀ op ∈ binO ++ [[44]] ++ assigns, ∀ M ∈ ([[110], [118], [101], [117, 45], [117, 43], [33], [126], [43, 43, 118], [45, 45, 118], [118, 43, 43], [118, 45, 45], [63]] : List (List UInt8)), (op == M) = false := by decide
theorem two_len : ∀ op ∈ binO ++ [[44]] ++ assigns, op.length ≤ 3 := by decide
set_option maxRecDepth 100000 in
set_option maxHeartbeats 3200000 in
theorem rshow_two (P : Nat → Prop) (op : List UInt8) (hop : op ∈ binO ++ [[44]] ++ assigns) (n : Int) (nm : List UInt8) (y0 y1 : Ex) (hy0 : (shi y0).length ≤ 1000000) (hy1 : (shi y1).length ≤ 1000000) (IH0 : RS P y0 true) (IH1 : RS P y1 true) : RS P (.mk op n nm [y0, y1]) false := by
  intro v w hx hp
  obtain ⟨A, c, rfl, _, hA⟩ := hx.parts
  have HOp := Lib.hid (two_ne op hop)
  have hlo := two_len op hop
  have hl : leafO op = false := leaf_false (fun e => by have := HOp.out [110] (by simp); rw [e] at this; cases this) (fun e => by have := HOp.out [118] (by simp); rw [e] at this; cases this) (fun e => by have := HOp.out [101] (by simp); rw [e] at this; cases this)
  have f0 : ((toB op).toList == [110]) = false := by rw [toB_toList]; exact HOp.out [110] (by simp)
  have f1 : ((toB op).toList == [118]) = false := by rw [toB_toList]; exact HOp.out [118] (by simp)
  have f2 : ((toB op).toList == [101]) = false := by rw [toB_toList]; exact HOp.out [101] (by simp)
  have f3 : ((toB op).toList == [117, 45]) = false := by rw [toB_toList]; exact HOp.out [117, 45] (by simp)
  have f4 : ((toB op).toList == [117, 43]) = false := by rw [toB_toList]; exact HOp.out [117, 43] (by simp)
  have f5 : ((toB op).toList == [33]) = false := by rw [toB_toList]; exact HOp.out [33] (by simp)
  have f6 : ((toB op).toList == [126]) = false := by rw [toB_toList]; exact HOp.out [126] (by simp)
  have f7 : ((toB op).toList == [43, 43, 118]) = false := by rw [toB_toList]; exact HOp.out [43, 43, 118] (by simp)
  have f8 : ((toB op).toList == [45, 45, 118]) = false := by rw [toB_toList]; exact HOp.out [45, 45, 118] (by simp)
  have f9 : ((toB op).toList == [118, 43, 43]) = false := by rw [toB_toList]; exact HOp.out [118, 43, 43] (by simp)
  have f10 : ((toB op).toList == [118, 45, 45]) = false := by rw [toB_toList]; exact HOp.out [118, 45, 45] (by simp)
  have f11 : ((toB op).toList == [63]) = false := by rw [toB_toList]; exact HOp.out [63] (by simp)
  rw [if_neg (by decide), show shw (.mk op n nm [y0, y1]) = shi y0 ++ 32 :: (op ++ 32 :: shi y1) from by
    unfold leafO at hl
    simp at hl
    unfold shw shB
    rw [if_neg hl.1.1, if_neg hl.1.2, if_neg hl.2]
    rfl]
  have hszO := toB_size op
  clear hl
  have ba := (Below.refl w.heap.size w).alloc (Nat.le_refl _) (.cells #[.string (toB op), .int .i64 n, .string (toB nm), .slice A [y0, y1].length c] 25)
  have HB := Lib.hid ba
  have F := Lib.hid (Four.new w (.string (toB op)) (.int .i64 n) (.string (toB nm)) (.slice A [y0, y1].length c))
  obtain ⟨g, off, rfl, _, hg, hL⟩ := hA.below ba (by simp)
  obtain ⟨v0, v1, v2, v3, p00, p01, p02, p03, hx0⟩ := ex0 hL
  obtain ⟨n0, A0, k0, z0, nm0, hv, hq⟩ := hx0.form
  simp only [Value.agg.injEq, Array.mk.injEq, List.cons.injEq, and_true] at hv
  clear hq
  obtain ⟨rfl, rfl, rfl, rfl⟩ := hv
  have HI0 := Lib.hid (fun W (hb : Below (w.alloc (.cells #[.string (toB op), .int .i64 n, .string (toB nm), .slice (some ⟨g, off, none⟩) [y0, y1].length c] 25)).heap.size (w.alloc (.cells #[.string (toB op), .int .i64 n, .string (toB nm), .slice (some ⟨g, off, none⟩) [y0, y1].length c] 25)) W) => IH0 _ W (hx0.below hb) ((hp.keep ba).keep hb))
  rw [if_pos rfl] at HI0
  have hL0 := ex1 hL
  obtain ⟨v0, v1, v2, v3, p10, p11, p12, p13, hx1⟩ := ex0 hL0
  obtain ⟨n1, A1, k1, z1, nm1, hv, hq⟩ := hx1.form
  simp only [Value.agg.injEq, Array.mk.injEq, List.cons.injEq, and_true] at hv
  clear hq
  obtain ⟨rfl, rfl, rfl, rfl⟩ := hv
  have HI1 := Lib.hid (fun W (hb : Below (w.alloc (.cells #[.string (toB op), .int .i64 n, .string (toB nm), .slice (some ⟨g, off, none⟩) [y0, y1].length c] 25)).heap.size (w.alloc (.cells #[.string (toB op), .int .i64 n, .string (toB nm), .slice (some ⟨g, off, none⟩) [y0, y1].length c] 25)) W) => IH1 _ W (hx1.below hb) ((hp.keep ba).keep hb))
  rw [if_pos rfl] at HI1
  rw [show off + 4 = off + 1 * 4 by omega] at p10 p11 p12 p13
  generalize shi y0 = T0 at *
  have hszT0 := toB_size T0
  generalize shi y1 = T1 at *
  have hszT1 := toB_size T1
  clear ba hx hop hp hA hL hx0 IH0 hx1 IH1 hL0
  have hk1 : ¬ 9223372036854775807 < T0.length + 1 := by omega
  have hk2 : ¬ 9223372036854775807 < T0.length + 1 + op.length := by omega
  have hk3 : ¬ 9223372036854775807 < T0.length + 1 + op.length + 1 := by omega
  have hk4 : ¬ 9223372036854775807 < T0.length + 1 + op.length + 1 + T1.length := by omega
  go_enter Tryz.func41, Tryz.ntmps41
  obtain ⟨c0, c1, c2, c3, cf⟩ := F.out.cells
  go_upto_region 14 with fail
  generalize w.alloc (.cells #[.string (toB op), .int .i64 n, .string (toB nm), .slice (some ⟨g, off, none⟩) [y0, y1].length c] 25) = w1 at *
  generalize y0.op = op0 at *
  generalize y1.op = op1 at *
  have HAc := Lib.hid (show ∀ W, Below w1.heap.size w1 W → (W.cell? ⟨g, off + 1 * 4, none⟩ = some (.string (toB op1)) ∧ W.cell? ⟨g, off + 1 * 4 + 1, none⟩ = some (.int .i64 n1) ∧ W.cell? ⟨g, off + 1 * 4 + 2, none⟩ = some (.string (toB nm1)) ∧ W.cell? ⟨g, off + 1 * 4 + 3, none⟩ = some (.slice A1 k1 z1)) from fun W hb => ⟨(hb.cell (p := ⟨g, off + 1 * 4, none⟩) hg).trans p10, (hb.cell (p := ⟨g, off + 1 * 4 + 1, none⟩) hg).trans p11, (hb.cell (p := ⟨g, off + 1 * 4 + 2, none⟩) hg).trans p12, (hb.cell (p := ⟨g, off + 1 * 4 + 3, none⟩) hg).trans p13⟩)
  go_wp2_with fail
  refine (HI0.out _ (Below.refl _ _)).mono ?_
  rintro e wa ⟨rfl, hba⟩
  obtain ⟨q10, q11, q12, q13⟩ := HAc.out wa hba
  have hga : g < wa.heap.size := Nat.lt_of_lt_of_le hg hba.size
  obtain ⟨d0, d1, d2, d3, df⟩ := (Four.keep F.out hba).cells
  have HJ1 := Lib.hid (fun W (hb : Below wa.heap.size wa W) => HI1.out W (hba.trans (hb.mono hba.size)))
  have HBa := Lib.hid (HB.out.trans (hba.mono HB.out.size))
  have Fa := Lib.hid (Four.keep F.out hba)
  clear hba c0 c1 c2 c3 cf p00 p01 p02 p03 p10 p11 p12 p13 HI0 HI1 HAc HB F hg
  go_upto_region 30 with fail
  go_region_law (first
    | (go_simp; go_at_call 41; refine (HJ1.out _ ?hb).mono ?_; (case hb => first | exact (Below.refl _ _) | exact (Below.refl _ _).drew); rintro e w2 ⟨rfl, hb0⟩; have hb2 : Below wa.heap.size wa w2 := (by first | exact (Below.refl _ wa).drew.trans hb0 | exact hb0); have HB3 := Lib.hid (HBa.out.trans (hb2.mono HBa.out.size)); obtain ⟨e0, e1, e2, e3, ef⟩ := (Four.keep Fa.out hb2).cells; clear hb2 hb0))
  all_goals
    go_wp2_with fail
    go_ret
    refine ⟨ret_tx ?_, HB3.out⟩
    show toB T0 ++ toB [32] ++ toB op ++ toB [32] ++ toB T1 = _
    rw [toB_app, toB_app, toB_app, toB_app]
    congr 1
    simp

end Go.Proofs.YtiigclkebnmopaaGreatDoor
