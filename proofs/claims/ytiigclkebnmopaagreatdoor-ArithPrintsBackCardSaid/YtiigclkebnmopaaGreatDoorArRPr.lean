/- Arithmetic expressions: the reference's showExpr. -/
import Derived.Test.YtiigclkebnmopaaGreatDoorArLast
import Derived.Test.YtiigclkebnmopaaGreatDoorArDok
import Derived.Test.YtiigclkebnmopaaGreatDoorShelfB
import Derived.Deep.RegionWith
import Derived.Lib.SmallJoins
import Derived.Shelf.GgClosure.Gives
namespace Go.Proofs.YtiigclkebnmopaaGreatDoor
open Go.RowKit Go.Shelf

theorem toB_app (a b : List UInt8) : toB a ++ toB b = toB (a ++ b) := by
  apply ByteArray.ext
  rw [ByteArray.data_append]
  simp [toB]
theorem toB_ext (a : List UInt8) (i j : Nat) : (toB a).extract i j = toB ((a.drop i).take (j - i)) := by
  apply ByteArray.ext
  rw [ByteArray.data_extract]
  simp [toB, List.take_drop]
theorem toB_toList (l : List UInt8) : (toB l).toList = l := by simp [toB, ByteArray.toList_eq]
/-- the table of powers -/
def PW (w : World) : Prop := Lib.TabIs Tryz.prog w "internal/strconv.uint64pow10" .u64 Lib.pow10Tab
theorem gPow : Tryz.prog.globalNamed "internal/strconv.uint64pow10" = some 3 := by kernel_rfl
theorem PW.keep {w w' : World} (h : PW w) (hb : Below w.heap.size w w') : PW w' := Joins.tab_stays gPow h hb (Nat.le_refl _)
/-- what the reference prints -/
def RS (P : Nat → Prop) (x : Ex) (inner : Bool) : Prop := ∀ (v : Value) (W : World), ExV P W v x → PW W → Calls Tryz.prog 41 #[v, .bool inner] W fun e W' => e = .returned (.string (toB (if inner = true then shi x else shw x))) ∧ Below W.heap.size W W'
theorem ret_tx {a b : ByteArray} (h : a = b) : Ending.returned (.string a) = .returned (.string b) := by rw [h]
theorem ex0 {P : Nat → Prop} {w : World} {g off : Nat} {x : Ex} {r : List Ex} (h : ExL P w g off (x :: r)) : ∃ v0 v1 v2 v3, w.cell? ⟨g, off, none⟩ = some v0 ∧ w.cell? ⟨g, off + 1, none⟩ = some v1 ∧ w.cell? ⟨g, off + 2, none⟩ = some v2 ∧ w.cell? ⟨g, off + 3, none⟩ = some v3 ∧ ExV P w (.agg #[v0, v1, v2, v3]) x := by
  unfold ExL at h
  exact h.1
theorem ex1 {P : Nat → Prop} {w : World} {g off : Nat} {x : Ex} {r : List Ex} (h : ExL P w g off (x :: r)) : ExL P w g (off + 4) r := by
  unfold ExL at h
  exact h.2

set_option maxRecDepth 100000 in
set_option maxHeartbeats 3200000 in
theorem rshow_inner (P : Nat → Prop) (x : Ex) (h0 : leafO x.op = false) (hlen : (shi x).length ≤ 1000000) (IH : RS P x false) : RS P x true := by
  intro v w hx hp
  obtain ⟨op, n, nm, l⟩ := x
  obtain ⟨A, c, rfl, hc, hA⟩ := hx.parts
  unfold leafO at h0
  simp only [Ex.op, Bool.or_eq_false_iff] at h0
  have f1 : ((toB op).toList == [110]) = false := by rw [toB_toList]; exact h0.1.1
  have f2 : ((toB op).toList == [118]) = false := by rw [toB_toList]; exact h0.1.2
  have f3 : ((toB op).toList == [101]) = false := by rw [toB_toList]; exact h0.2
  have hs : shi (.mk op n nm l) = 40 :: (shw (.mk op n nm l) ++ [41]) := by
    unfold shi inn leafO
    simp only [Ex.op, h0.1.1, h0.1.2, h0.2]
    rfl
  have ba := (Below.refl w.heap.size w).alloc (Nat.le_refl _) (.cells #[.string (toB op), .int .i64 n, .string (toB nm), .slice A l.length c] 25)
  have HB := Lib.hid ba
  have HI := Lib.hid (fun W (hb : Below w.heap.size w W) => IH _ W (hx.below hb) (hp.keep hb))
  have F := Lib.hid (Four.new w (.string (toB op)) (.int .i64 n) (.string (toB nm)) (.slice A l.length c))
  rw [if_neg (by decide)] at HI
  rw [if_pos rfl]
  have HS := Lib.hid hs
  generalize shw (.mk op n nm l) = T at *
  generalize shi (.mk op n nm l) = S at *
  have hT : T.length ≤ 1000000 := by rw [hs] at hlen; simp at hlen; omega
  have hsz := toB_size T
  clear hs h0 hlen hx IH hp hA ba
  go_enter Tryz.func41, Tryz.ntmps41
  obtain ⟨c0, c1, c2, c3, cf⟩ := F.out.cells
  go_wp2_with fail
  refine (HI.out _ HB.out).mono ?_
  rintro e w2 ⟨rfl, hb2⟩
  have HB2 := Lib.hid (HB.out.trans (hb2.mono HB.out.size))
  clear hb2
  go_wp2_with fail
  go_ret
  refine ⟨ret_tx ?_, HB2.out⟩
  rw [HS.out]
  show toB [40] ++ toB T ++ toB [41] = _
  rw [toB_app, toB_app]
  rfl

set_option maxRecDepth 100000 in
set_option maxHeartbeats 3200000 in
theorem rshow_n (P : Nat → Prop) (n : Int) (nm : List UInt8) (h0 : -9223372036854775808 ≤ n) (h1 : n ≤ 9223372036854775807) (inner : Bool) : RS P (.mk [110] n nm []) inner := by
  intro v w hx hp
  obtain ⟨op, hop⟩ : ∃ op, ([110] : List UInt8) = op := ⟨_, rfl⟩
  rw [hop] at hx ⊢
  obtain ⟨A, c, rfl, _, _⟩ := hx.parts
  have HOp := Lib.hid hop.symm
  have f0 : ((toB op).toList == [110]) = true := by rw [toB_toList, HOp.out]; rfl
  have hs : (if inner = true then shi (.mk op n nm []) else shw (.mk op n nm [])) = Lib.itoa n := by
    rw [← hop]
    cases inner <;> rfl
  rw [hs]
  have ba := (Below.refl w.heap.size w).alloc (Nat.le_refl _) (.cells #[.string (toB op), .int .i64 n, .string (toB nm), .slice A ([] : List Ex).length c] 25)
  have HB := Lib.hid ba
  have HIt := Lib.hid (fun W (hb : Below w.heap.size w W) => Tryz.strconv_Itoa n h0 h1 W (hp.keep hb))
  have F := Lib.hid (Four.new w (.string (toB op)) (.int .i64 n) (.string (toB nm)) (.slice A ([] : List Ex).length c))
  clear ba hs hx hp hop
  go_enter Tryz.func41, Tryz.ntmps41
  obtain ⟨c0, c1, c2, c3, cf⟩ := F.out.cells
  go_wp2_with fail
  refine (HIt.out _ HB.out).mono ?_
  rintro e w2 ⟨rfl, k, os, rfl⟩
  have HB2 := Lib.hid (HB.out.trans ((below_grown _ k os).mono HB.out.size))
  go_wp2_with fail
  go_ret
  exact ⟨rfl, HB2.out⟩

set_option maxRecDepth 100000 in
set_option maxHeartbeats 3200000 in
theorem rshow_v (P : Nat → Prop) (n : Int) (nm : List UInt8) (hnm : nm.length ≤ 1000000) (inner : Bool) : RS P (.mk [118] n nm []) inner := by
  intro v w hx _
  obtain ⟨op, hop⟩ : ∃ op, ([118] : List UInt8) = op := ⟨_, rfl⟩
  rw [hop] at hx ⊢
  obtain ⟨A, c, rfl, _, _⟩ := hx.parts
  have HOp := Lib.hid hop.symm
  have f0 : ((toB op).toList == [110]) = false := by rw [toB_toList, HOp.out]; rfl
  have f1 : ((toB op).toList == [118]) = true := by rw [toB_toList, HOp.out]; rfl
  have hs : (if inner = true then shi (.mk op n nm []) else shw (.mk op n nm [])) = varS nm := by
    rw [← hop]
    cases inner <;> rfl
  rw [hs]
  have ba := (Below.refl w.heap.size w).alloc (Nat.le_refl _) (.cells #[.string (toB op), .int .i64 n, .string (toB nm), .slice A ([] : List Ex).length c] 25)
  have HB := Lib.hid ba
  have F := Lib.hid (Four.new w (.string (toB op)) (.int .i64 n) (.string (toB nm)) (.slice A ([] : List Ex).length c))
  have hsz := toB_size nm
  by_cases hn : isNm nm = true
  · have HV := Lib.hid (show varS nm = nm by unfold varS; rw [if_pos hn])
    have HN := Lib.hid hn
    skip
    clear ba hs hx hop hn
    go_enter Tryz.func41, Tryz.ntmps41
    obtain ⟨c0, c1, c2, c3, cf⟩ := F.out.cells
    go_wp2_with fail
    refine (risName_any nm _).mono ?_
    rintro e w2 ⟨rfl, rfl⟩
    rw [HN.out]
    go_wp2_with fail
    go_ret
    refine ⟨ret_tx ?_, HB.out⟩
    rw [HV.out]
  · have HN := Lib.hid (show isNm nm = false by simpa using hn)
    by_cases h1 : 1 < nm.length
    · have HV := Lib.hid (show varS nm = 36 :: 123 :: (nm ++ [125]) by unfold varS; rw [if_neg hn, if_pos h1])
      skip
      clear ba hs hx hop hn
      go_enter Tryz.func41, Tryz.ntmps41
      obtain ⟨c0, c1, c2, c3, cf⟩ := F.out.cells
      go_wp2_with fail
      refine (risName_any nm _).mono ?_
      rintro e w2 ⟨rfl, rfl⟩
      rw [HN.out]
      go_wp2_with fail
      go_ret
      refine ⟨ret_tx ?_, HB.out⟩
      rw [HV.out]
      show toB [36, 123] ++ toB nm ++ toB [125] = _
      rw [toB_app, toB_app]
      rfl
    · have HV := Lib.hid (show varS nm = 36 :: nm by unfold varS; rw [if_neg hn, if_neg h1])
      skip
      clear ba hs hx hop hn
      go_enter Tryz.func41, Tryz.ntmps41
      obtain ⟨c0, c1, c2, c3, cf⟩ := F.out.cells
      go_wp2_with fail
      refine (risName_any nm _).mono ?_
      rintro e w2 ⟨rfl, rfl⟩
      rw [HN.out]
      go_wp2_with fail
      go_ret
      refine ⟨ret_tx ?_, HB.out⟩
      rw [HV.out]
      show toB [36] ++ toB nm = _
      rw [toB_app]
      rfl

set_option maxRecDepth 100000 in
set_option maxHeartbeats 3200000 in
theorem rshow_e (P : Nat → Prop) (n : Int) (nm : List UInt8) (y : Ex) (hnm : nm.length ≤ 1000000) (hy : (shw y).length ≤ 1000000) (IH : RS P y false) (inner : Bool) : RS P (.mk [101] n nm [y]) inner := by
  intro v w hx hp
  obtain ⟨op, hop⟩ : ∃ op, ([101] : List UInt8) = op := ⟨_, rfl⟩
  rw [hop] at hx ⊢
  obtain ⟨A, c, rfl, _, hA⟩ := hx.parts
  have HOp := Lib.hid hop.symm
  have f0 : ((toB op).toList == [110]) = false := by rw [toB_toList, HOp.out]; rfl
  have f1 : ((toB op).toList == [118]) = false := by rw [toB_toList, HOp.out]; rfl
  have f2 : ((toB op).toList == [101]) = true := by rw [toB_toList, HOp.out]; rfl
  have hs : (if inner = true then shi (.mk op n nm [y]) else shw (.mk op n nm [y])) = nm ++ 91 :: (shw y ++ [93]) := by
    rw [← hop]
    cases inner <;> rfl
  rw [hs]
  have ba := (Below.refl w.heap.size w).alloc (Nat.le_refl _) (.cells #[.string (toB op), .int .i64 n, .string (toB nm), .slice A [y].length c] 25)
  have HB := Lib.hid ba
  have F := Lib.hid (Four.new w (.string (toB op)) (.int .i64 n) (.string (toB nm)) (.slice A [y].length c))
  obtain ⟨g, off, rfl, _, hg, hL⟩ := hA.below ba (by simp)
  obtain ⟨v0, v1, v2, v3, p0, p1, p2, p3, hxy⟩ := ex0 hL
  obtain ⟨n5, A5, k5, c5, nm5, hv, hq5⟩ := hxy.form
  simp only [Value.agg.injEq, Array.mk.injEq, List.cons.injEq, and_true] at hv
  clear hq5
  obtain ⟨rfl, rfl, rfl, rfl⟩ := hv
  have HI := Lib.hid (fun W (hb : Below (w.alloc (.cells #[.string (toB op), .int .i64 n, .string (toB nm), .slice (some ⟨g, off, none⟩) [y].length c] 25)).heap.size (w.alloc (.cells #[.string (toB op), .int .i64 n, .string (toB nm), .slice (some ⟨g, off, none⟩) [y].length c] 25)) W) => IH _ W (hxy.below hb) ((hp.keep ba).keep hb))
  rw [if_neg (by decide)] at HI
  generalize shw y = T at *
  have hszT := toB_size T
  have hszN := toB_size nm
  have hk1 : ¬ 9223372036854775807 < nm.length + 1 := by omega
  have hk2 : ¬ 9223372036854775807 < nm.length + 1 + T.length := by omega
  have hk3 : ¬ 9223372036854775807 < nm.length + 1 + T.length + 1 := by omega
  clear ba hs hx hop hp hA hL hxy IH
  go_enter Tryz.func41, Tryz.ntmps41
  obtain ⟨c0, c1, c2, c3, cf⟩ := F.out.cells
  go_upto_region 11 with fail
  generalize w.alloc (.cells #[.string (toB op), .int .i64 n, .string (toB nm), .slice (some ⟨g, off, none⟩) [y].length c] 25) = w1 at *
  generalize y.op = opy at *
  go_region_law (first
    | (go_simp; go_at_call 41; refine (HI.out _ ?hb).mono ?_; (case hb => first | exact (Below.refl _ _) | exact (Below.refl _ _).drew); rintro e w2 ⟨rfl, hb0⟩; have hb2 : Below w1.heap.size w1 w2 := (by first | exact (Below.refl _ w1).drew.trans hb0 | exact hb0); have HB2 := Lib.hid (HB.out.trans (hb2.mono HB.out.size)); obtain ⟨d0, d1, d2, d3, df⟩ := (Four.keep F.out hb2).cells; clear hb2 hb0))
  all_goals
    go_wp2_with fail
    go_ret
    refine ⟨ret_tx ?_, HB2.out⟩
    show toB nm ++ toB [91] ++ toB T ++ toB [93] = _
    rw [toB_app, toB_app, toB_app]
    congr 1
    simp

set_option maxRecDepth 100000 in
set_option maxHeartbeats 3200000 in
theorem rshow_u0 (P : Nat → Prop) (n : Int) (nm : List UInt8) (y0 : Ex) (hy0 : (shi y0).length ≤ 1000000) (IH0 : RS P y0 true) : RS P (.mk [117, 45] n nm [y0]) false := by
  intro v w hx hp
  obtain ⟨op, hop⟩ : ∃ op, ([117, 45] : List UInt8) = op := ⟨_, rfl⟩
  rw [hop] at hx
  obtain ⟨A, c, rfl, _, hA⟩ := hx.parts
  have HOp := Lib.hid hop.symm
  have f0 : ((toB op).toList == [110]) = false := by rw [toB_toList, HOp.out]; rfl
  have f1 : ((toB op).toList == [118]) = false := by rw [toB_toList, HOp.out]; rfl
  have f2 : ((toB op).toList == [101]) = false := by rw [toB_toList, HOp.out]; rfl
  have f3 : ((toB op).toList == [117, 45]) = true := by rw [toB_toList, HOp.out]; rfl
  rw [if_neg (by decide), show shw (.mk [117, 45] n nm [y0]) = [45] ++ (shi y0 ++ []) from rfl]
  have hszO : (toB op).size = 2 := by rw [toB_size, HOp.out]; rfl
  have ba := (Below.refl w.heap.size w).alloc (Nat.le_refl _) (.cells #[.string (toB op), .int .i64 n, .string (toB nm), .slice A [y0].length c] 25)
  have HB := Lib.hid ba
  have F := Lib.hid (Four.new w (.string (toB op)) (.int .i64 n) (.string (toB nm)) (.slice A [y0].length c))
  obtain ⟨g, off, rfl, _, hg, hL⟩ := hA.below ba (by simp)
  obtain ⟨v0, v1, v2, v3, p00, p01, p02, p03, hx0⟩ := ex0 hL
  obtain ⟨n0, A0, k0, z0, nm0, hv, hq⟩ := hx0.form
  simp only [Value.agg.injEq, Array.mk.injEq, List.cons.injEq, and_true] at hv
  clear hq
  obtain ⟨rfl, rfl, rfl, rfl⟩ := hv
  have HI0 := Lib.hid (fun W (hb : Below (w.alloc (.cells #[.string (toB op), .int .i64 n, .string (toB nm), .slice (some ⟨g, off, none⟩) [y0].length c] 25)).heap.size (w.alloc (.cells #[.string (toB op), .int .i64 n, .string (toB nm), .slice (some ⟨g, off, none⟩) [y0].length c] 25)) W) => IH0 _ W (hx0.below hb) ((hp.keep ba).keep hb))
  rw [if_pos rfl] at HI0
  generalize shi y0 = T0 at *
  have hszT0 := toB_size T0
  clear ba hx hop hp hA hL hx0 IH0
  have hk1 : ¬ 9223372036854775807 < (toB op).size + T0.length := by omega
  have hk2 : ¬ 9223372036854775807 < T0.length + (toB op).size := by omega
  have hk3 : ¬ 9223372036854775807 < 1 + T0.length := by omega
  have hk4 : ¬ 9223372036854775807 < 2 + T0.length := by omega
  have hk5 : ¬ 9223372036854775807 < T0.length + 2 := by omega
  go_enter Tryz.func41, Tryz.ntmps41
  obtain ⟨c0, c1, c2, c3, cf⟩ := F.out.cells
  go_upto_region 14 with fail
  generalize w.alloc (.cells #[.string (toB op), .int .i64 n, .string (toB nm), .slice (some ⟨g, off, none⟩) [y0].length c] 25) = w1 at *
  generalize y0.op = opy at *
  go_wp2_with fail
  refine (HI0.out _ (Below.refl _ _)).mono ?_
  rintro e w2 ⟨rfl, hb2⟩
  have HB2 := Lib.hid (HB.out.trans (hb2.mono HB.out.size))
  obtain ⟨d0, d1, d2, d3, df⟩ := (Four.keep F.out hb2).cells
  clear hb2 c0 c1 c2 c3 cf p00 p01 p02 p03
  go_wp2_with fail
  go_ret
  refine ⟨ret_tx ?_, HB2.out⟩
  rw [HOp.out]
  try rw [toB_ext]
  rw [toB_app]
  first | rfl | (congr 1; simp)

set_option maxRecDepth 100000 in
set_option maxHeartbeats 3200000 in
theorem rshow_u1 (P : Nat → Prop) (n : Int) (nm : List UInt8) (y0 : Ex) (hy0 : (shi y0).length ≤ 1000000) (IH0 : RS P y0 true) : RS P (.mk [117, 43] n nm [y0]) false := by
  intro v w hx hp
  obtain ⟨op, hop⟩ : ∃ op, ([117, 43] : List UInt8) = op := ⟨_, rfl⟩
  rw [hop] at hx
  obtain ⟨A, c, rfl, _, hA⟩ := hx.parts
  have HOp := Lib.hid hop.symm
  have f0 : ((toB op).toList == [110]) = false := by rw [toB_toList, HOp.out]; rfl
  have f1 : ((toB op).toList == [118]) = false := by rw [toB_toList, HOp.out]; rfl
  have f2 : ((toB op).toList == [101]) = false := by rw [toB_toList, HOp.out]; rfl
  have f3 : ((toB op).toList == [117, 45]) = false := by rw [toB_toList, HOp.out]; rfl
  have f4 : ((toB op).toList == [117, 43]) = true := by rw [toB_toList, HOp.out]; rfl
  rw [if_neg (by decide), show shw (.mk [117, 43] n nm [y0]) = [43] ++ (shi y0 ++ []) from rfl]
  have hszO : (toB op).size = 2 := by rw [toB_size, HOp.out]; rfl
  have ba := (Below.refl w.heap.size w).alloc (Nat.le_refl _) (.cells #[.string (toB op), .int .i64 n, .string (toB nm), .slice A [y0].length c] 25)
  have HB := Lib.hid ba
  have F := Lib.hid (Four.new w (.string (toB op)) (.int .i64 n) (.string (toB nm)) (.slice A [y0].length c))
  obtain ⟨g, off, rfl, _, hg, hL⟩ := hA.below ba (by simp)
  obtain ⟨v0, v1, v2, v3, p00, p01, p02, p03, hx0⟩ := ex0 hL
  obtain ⟨n0, A0, k0, z0, nm0, hv, hq⟩ := hx0.form
  simp only [Value.agg.injEq, Array.mk.injEq, List.cons.injEq, and_true] at hv
  clear hq
  obtain ⟨rfl, rfl, rfl, rfl⟩ := hv
  have HI0 := Lib.hid (fun W (hb : Below (w.alloc (.cells #[.string (toB op), .int .i64 n, .string (toB nm), .slice (some ⟨g, off, none⟩) [y0].length c] 25)).heap.size (w.alloc (.cells #[.string (toB op), .int .i64 n, .string (toB nm), .slice (some ⟨g, off, none⟩) [y0].length c] 25)) W) => IH0 _ W (hx0.below hb) ((hp.keep ba).keep hb))
  rw [if_pos rfl] at HI0
  generalize shi y0 = T0 at *
  have hszT0 := toB_size T0
  clear ba hx hop hp hA hL hx0 IH0
  have hk1 : ¬ 9223372036854775807 < (toB op).size + T0.length := by omega
  have hk2 : ¬ 9223372036854775807 < T0.length + (toB op).size := by omega
  have hk3 : ¬ 9223372036854775807 < 1 + T0.length := by omega
  have hk4 : ¬ 9223372036854775807 < 2 + T0.length := by omega
  have hk5 : ¬ 9223372036854775807 < T0.length + 2 := by omega
  go_enter Tryz.func41, Tryz.ntmps41
  obtain ⟨c0, c1, c2, c3, cf⟩ := F.out.cells
  go_upto_region 14 with fail
  generalize w.alloc (.cells #[.string (toB op), .int .i64 n, .string (toB nm), .slice (some ⟨g, off, none⟩) [y0].length c] 25) = w1 at *
  generalize y0.op = opy at *
  go_wp2_with fail
  refine (HI0.out _ (Below.refl _ _)).mono ?_
  rintro e w2 ⟨rfl, hb2⟩
  have HB2 := Lib.hid (HB.out.trans (hb2.mono HB.out.size))
  obtain ⟨d0, d1, d2, d3, df⟩ := (Four.keep F.out hb2).cells
  clear hb2 c0 c1 c2 c3 cf p00 p01 p02 p03
  go_wp2_with fail
  go_ret
  refine ⟨ret_tx ?_, HB2.out⟩
  rw [HOp.out]
  try rw [toB_ext]
  rw [toB_app]
  first | rfl | (congr 1; simp)

set_option maxRecDepth 100000 in
set_option maxHeartbeats 3200000 in
theorem rshow_u2 (P : Nat → Prop) (n : Int) (nm : List UInt8) (y0 : Ex) (hy0 : (shi y0).length ≤ 1000000) (IH0 : RS P y0 true) : RS P (.mk [33] n nm [y0]) false := by
  intro v w hx hp
  obtain ⟨op, hop⟩ : ∃ op, ([33] : List UInt8) = op := ⟨_, rfl⟩
  rw [hop] at hx
  obtain ⟨A, c, rfl, _, hA⟩ := hx.parts
  have HOp := Lib.hid hop.symm
  have f0 : ((toB op).toList == [110]) = false := by rw [toB_toList, HOp.out]; rfl
  have f1 : ((toB op).toList == [118]) = false := by rw [toB_toList, HOp.out]; rfl
  have f2 : ((toB op).toList == [101]) = false := by rw [toB_toList, HOp.out]; rfl
  have f3 : ((toB op).toList == [117, 45]) = false := by rw [toB_toList, HOp.out]; rfl
  have f4 : ((toB op).toList == [117, 43]) = false := by rw [toB_toList, HOp.out]; rfl
  have f5 : ((toB op).toList == [33]) = true := by rw [toB_toList, HOp.out]; rfl
  rw [if_neg (by decide), show shw (.mk [33] n nm [y0]) = [33] ++ (shi y0 ++ []) from rfl]
  have hszO : (toB op).size = 1 := by rw [toB_size, HOp.out]; rfl
  have ba := (Below.refl w.heap.size w).alloc (Nat.le_refl _) (.cells #[.string (toB op), .int .i64 n, .string (toB nm), .slice A [y0].length c] 25)
  have HB := Lib.hid ba
  have F := Lib.hid (Four.new w (.string (toB op)) (.int .i64 n) (.string (toB nm)) (.slice A [y0].length c))
  obtain ⟨g, off, rfl, _, hg, hL⟩ := hA.below ba (by simp)
  obtain ⟨v0, v1, v2, v3, p00, p01, p02, p03, hx0⟩ := ex0 hL
  obtain ⟨n0, A0, k0, z0, nm0, hv, hq⟩ := hx0.form
  simp only [Value.agg.injEq, Array.mk.injEq, List.cons.injEq, and_true] at hv
  clear hq
  obtain ⟨rfl, rfl, rfl, rfl⟩ := hv
  have HI0 := Lib.hid (fun W (hb : Below (w.alloc (.cells #[.string (toB op), .int .i64 n, .string (toB nm), .slice (some ⟨g, off, none⟩) [y0].length c] 25)).heap.size (w.alloc (.cells #[.string (toB op), .int .i64 n, .string (toB nm), .slice (some ⟨g, off, none⟩) [y0].length c] 25)) W) => IH0 _ W (hx0.below hb) ((hp.keep ba).keep hb))
  rw [if_pos rfl] at HI0
  generalize shi y0 = T0 at *
  have hszT0 := toB_size T0
  clear ba hx hop hp hA hL hx0 IH0
  have hk1 : ¬ 9223372036854775807 < (toB op).size + T0.length := by omega
  have hk2 : ¬ 9223372036854775807 < T0.length + (toB op).size := by omega
  have hk3 : ¬ 9223372036854775807 < 1 + T0.length := by omega
  have hk4 : ¬ 9223372036854775807 < 2 + T0.length := by omega
  have hk5 : ¬ 9223372036854775807 < T0.length + 2 := by omega
  go_enter Tryz.func41, Tryz.ntmps41
  obtain ⟨c0, c1, c2, c3, cf⟩ := F.out.cells
  go_upto_region 14 with fail
  generalize w.alloc (.cells #[.string (toB op), .int .i64 n, .string (toB nm), .slice (some ⟨g, off, none⟩) [y0].length c] 25) = w1 at *
  generalize y0.op = opy at *
  go_wp2_with fail
  refine (HI0.out _ (Below.refl _ _)).mono ?_
  rintro e w2 ⟨rfl, hb2⟩
  have HB2 := Lib.hid (HB.out.trans (hb2.mono HB.out.size))
  obtain ⟨d0, d1, d2, d3, df⟩ := (Four.keep F.out hb2).cells
  clear hb2 c0 c1 c2 c3 cf p00 p01 p02 p03
  go_wp2_with fail
  go_ret
  refine ⟨ret_tx ?_, HB2.out⟩
  rw [HOp.out]
  try rw [toB_ext]
  rw [toB_app]
  first | rfl | (congr 1; simp)

set_option maxRecDepth 100000 in
set_option maxHeartbeats 3200000 in
theorem rshow_u3 (P : Nat → Prop) (n : Int) (nm : List UInt8) (y0 : Ex) (hy0 : (shi y0).length ≤ 1000000) (IH0 : RS P y0 true) : RS P (.mk [126] n nm [y0]) false := by
  intro v w hx hp
  obtain ⟨op, hop⟩ : ∃ op, ([126] : List UInt8) = op := ⟨_, rfl⟩
  rw [hop] at hx
  obtain ⟨A, c, rfl, _, hA⟩ := hx.parts
  have HOp := Lib.hid hop.symm
  have f0 : ((toB op).toList == [110]) = false := by rw [toB_toList, HOp.out]; rfl
  have f1 : ((toB op).toList == [118]) = false := by rw [toB_toList, HOp.out]; rfl
  have f2 : ((toB op).toList == [101]) = false := by rw [toB_toList, HOp.out]; rfl
  have f3 : ((toB op).toList == [117, 45]) = false := by rw [toB_toList, HOp.out]; rfl
  have f4 : ((toB op).toList == [117, 43]) = false := by rw [toB_toList, HOp.out]; rfl
  have f5 : ((toB op).toList == [33]) = false := by rw [toB_toList, HOp.out]; rfl
  have f6 : ((toB op).toList == [126]) = true := by rw [toB_toList, HOp.out]; rfl
  rw [if_neg (by decide), show shw (.mk [126] n nm [y0]) = [126] ++ (shi y0 ++ []) from rfl]
  have hszO : (toB op).size = 1 := by rw [toB_size, HOp.out]; rfl
  have ba := (Below.refl w.heap.size w).alloc (Nat.le_refl _) (.cells #[.string (toB op), .int .i64 n, .string (toB nm), .slice A [y0].length c] 25)
  have HB := Lib.hid ba
  have F := Lib.hid (Four.new w (.string (toB op)) (.int .i64 n) (.string (toB nm)) (.slice A [y0].length c))
  obtain ⟨g, off, rfl, _, hg, hL⟩ := hA.below ba (by simp)
  obtain ⟨v0, v1, v2, v3, p00, p01, p02, p03, hx0⟩ := ex0 hL
  obtain ⟨n0, A0, k0, z0, nm0, hv, hq⟩ := hx0.form
  simp only [Value.agg.injEq, Array.mk.injEq, List.cons.injEq, and_true] at hv
  clear hq
  obtain ⟨rfl, rfl, rfl, rfl⟩ := hv
  have HI0 := Lib.hid (fun W (hb : Below (w.alloc (.cells #[.string (toB op), .int .i64 n, .string (toB nm), .slice (some ⟨g, off, none⟩) [y0].length c] 25)).heap.size (w.alloc (.cells #[.string (toB op), .int .i64 n, .string (toB nm), .slice (some ⟨g, off, none⟩) [y0].length c] 25)) W) => IH0 _ W (hx0.below hb) ((hp.keep ba).keep hb))
  rw [if_pos rfl] at HI0
  generalize shi y0 = T0 at *
  have hszT0 := toB_size T0
  clear ba hx hop hp hA hL hx0 IH0
  have hk1 : ¬ 9223372036854775807 < (toB op).size + T0.length := by omega
  have hk2 : ¬ 9223372036854775807 < T0.length + (toB op).size := by omega
  have hk3 : ¬ 9223372036854775807 < 1 + T0.length := by omega
  have hk4 : ¬ 9223372036854775807 < 2 + T0.length := by omega
  have hk5 : ¬ 9223372036854775807 < T0.length + 2 := by omega
  go_enter Tryz.func41, Tryz.ntmps41
  obtain ⟨c0, c1, c2, c3, cf⟩ := F.out.cells
  go_upto_region 14 with fail
  generalize w.alloc (.cells #[.string (toB op), .int .i64 n, .string (toB nm), .slice (some ⟨g, off, none⟩) [y0].length c] 25) = w1 at *
  generalize y0.op = opy at *
  go_wp2_with fail
  refine (HI0.out _ (Below.refl _ _)).mono ?_
  rintro e w2 ⟨rfl, hb2⟩
  have HB2 := Lib.hid (HB.out.trans (hb2.mono HB.out.size))
  obtain ⟨d0, d1, d2, d3, df⟩ := (Four.keep F.out hb2).cells
  clear hb2 c0 c1 c2 c3 cf p00 p01 p02 p03
  go_wp2_with fail
  go_ret
  refine ⟨ret_tx ?_, HB2.out⟩
  rw [HOp.out]
  try rw [toB_ext]
  rw [toB_app]
  first | rfl | (congr 1; simp)

set_option maxRecDepth 100000 in
set_option maxHeartbeats 3200000 in
theorem rshow_u4 (P : Nat → Prop) (n : Int) (nm : List UInt8) (y0 : Ex) (hy0 : (shi y0).length ≤ 1000000) (IH0 : RS P y0 true) : RS P (.mk [43, 43, 118] n nm [y0]) false := by
  intro v w hx hp
  obtain ⟨op, hop⟩ : ∃ op, ([43, 43, 118] : List UInt8) = op := ⟨_, rfl⟩
  rw [hop] at hx
  obtain ⟨A, c, rfl, _, hA⟩ := hx.parts
  have HOp := Lib.hid hop.symm
  have f0 : ((toB op).toList == [110]) = false := by rw [toB_toList, HOp.out]; rfl
  have f1 : ((toB op).toList == [118]) = false := by rw [toB_toList, HOp.out]; rfl
  have f2 : ((toB op).toList == [101]) = false := by rw [toB_toList, HOp.out]; rfl
  have f3 : ((toB op).toList == [117, 45]) = false := by rw [toB_toList, HOp.out]; rfl
  have f4 : ((toB op).toList == [117, 43]) = false := by rw [toB_toList, HOp.out]; rfl
  have f5 : ((toB op).toList == [33]) = false := by rw [toB_toList, HOp.out]; rfl
  have f6 : ((toB op).toList == [126]) = false := by rw [toB_toList, HOp.out]; rfl
  have f7 : ((toB op).toList == [43, 43, 118]) = true := by rw [toB_toList, HOp.out]; rfl
  rw [if_neg (by decide), show shw (.mk [43, 43, 118] n nm [y0]) = [43, 43] ++ (shi y0 ++ []) from rfl]
  have hszO : (toB op).size = 3 := by rw [toB_size, HOp.out]; rfl
  have ba := (Below.refl w.heap.size w).alloc (Nat.le_refl _) (.cells #[.string (toB op), .int .i64 n, .string (toB nm), .slice A [y0].length c] 25)
  have HB := Lib.hid ba
  have F := Lib.hid (Four.new w (.string (toB op)) (.int .i64 n) (.string (toB nm)) (.slice A [y0].length c))
  obtain ⟨g, off, rfl, _, hg, hL⟩ := hA.below ba (by simp)
  obtain ⟨v0, v1, v2, v3, p00, p01, p02, p03, hx0⟩ := ex0 hL
  obtain ⟨n0, A0, k0, z0, nm0, hv, hq⟩ := hx0.form
  simp only [Value.agg.injEq, Array.mk.injEq, List.cons.injEq, and_true] at hv
  clear hq
  obtain ⟨rfl, rfl, rfl, rfl⟩ := hv
  have HI0 := Lib.hid (fun W (hb : Below (w.alloc (.cells #[.string (toB op), .int .i64 n, .string (toB nm), .slice (some ⟨g, off, none⟩) [y0].length c] 25)).heap.size (w.alloc (.cells #[.string (toB op), .int .i64 n, .string (toB nm), .slice (some ⟨g, off, none⟩) [y0].length c] 25)) W) => IH0 _ W (hx0.below hb) ((hp.keep ba).keep hb))
  rw [if_pos rfl] at HI0
  generalize shi y0 = T0 at *
  have hszT0 := toB_size T0
  clear ba hx hop hp hA hL hx0 IH0
  have hk1 : ¬ 9223372036854775807 < (toB op).size + T0.length := by omega
  have hk2 : ¬ 9223372036854775807 < T0.length + (toB op).size := by omega
  have hk3 : ¬ 9223372036854775807 < 1 + T0.length := by omega
  have hk4 : ¬ 9223372036854775807 < 2 + T0.length := by omega
  have hk5 : ¬ 9223372036854775807 < T0.length + 2 := by omega
  go_enter Tryz.func41, Tryz.ntmps41
  obtain ⟨c0, c1, c2, c3, cf⟩ := F.out.cells
  go_upto_region 14 with fail
  generalize w.alloc (.cells #[.string (toB op), .int .i64 n, .string (toB nm), .slice (some ⟨g, off, none⟩) [y0].length c] 25) = w1 at *
  generalize y0.op = opy at *
  go_wp2_with fail
  refine (HI0.out _ (Below.refl _ _)).mono ?_
  rintro e w2 ⟨rfl, hb2⟩
  have HB2 := Lib.hid (HB.out.trans (hb2.mono HB.out.size))
  obtain ⟨d0, d1, d2, d3, df⟩ := (Four.keep F.out hb2).cells
  clear hb2 c0 c1 c2 c3 cf p00 p01 p02 p03
  go_wp2_with fail
  go_ret
  refine ⟨ret_tx ?_, HB2.out⟩
  rw [HOp.out]
  try rw [toB_ext]
  rw [toB_app]
  first | rfl | (congr 1; simp)

set_option maxRecDepth 100000 in
set_option maxHeartbeats 3200000 in
theorem rshow_u5 (P : Nat → Prop) (n : Int) (nm : List UInt8) (y0 : Ex) (hy0 : (shi y0).length ≤ 1000000) (IH0 : RS P y0 true) : RS P (.mk [45, 45, 118] n nm [y0]) false := by
  intro v w hx hp
  obtain ⟨op, hop⟩ : ∃ op, ([45, 45, 118] : List UInt8) = op := ⟨_, rfl⟩
  rw [hop] at hx
  obtain ⟨A, c, rfl, _, hA⟩ := hx.parts
  have HOp := Lib.hid hop.symm
  have f0 : ((toB op).toList == [110]) = false := by rw [toB_toList, HOp.out]; rfl
  have f1 : ((toB op).toList == [118]) = false := by rw [toB_toList, HOp.out]; rfl
  have f2 : ((toB op).toList == [101]) = false := by rw [toB_toList, HOp.out]; rfl
  have f3 : ((toB op).toList == [117, 45]) = false := by rw [toB_toList, HOp.out]; rfl
  have f4 : ((toB op).toList == [117, 43]) = false := by rw [toB_toList, HOp.out]; rfl
  have f5 : ((toB op).toList == [33]) = false := by rw [toB_toList, HOp.out]; rfl
  have f6 : ((toB op).toList == [126]) = false := by rw [toB_toList, HOp.out]; rfl
  have f7 : ((toB op).toList == [43, 43, 118]) = false := by rw [toB_toList, HOp.out]; rfl
  have f8 : ((toB op).toList == [45, 45, 118]) = true := by rw [toB_toList, HOp.out]; rfl
  rw [if_neg (by decide), show shw (.mk [45, 45, 118] n nm [y0]) = [45, 45] ++ (shi y0 ++ []) from rfl]
  have hszO : (toB op).size = 3 := by rw [toB_size, HOp.out]; rfl
  have ba := (Below.refl w.heap.size w).alloc (Nat.le_refl _) (.cells #[.string (toB op), .int .i64 n, .string (toB nm), .slice A [y0].length c] 25)
  have HB := Lib.hid ba
  have F := Lib.hid (Four.new w (.string (toB op)) (.int .i64 n) (.string (toB nm)) (.slice A [y0].length c))
  obtain ⟨g, off, rfl, _, hg, hL⟩ := hA.below ba (by simp)
  obtain ⟨v0, v1, v2, v3, p00, p01, p02, p03, hx0⟩ := ex0 hL
  obtain ⟨n0, A0, k0, z0, nm0, hv, hq⟩ := hx0.form
  simp only [Value.agg.injEq, Array.mk.injEq, List.cons.injEq, and_true] at hv
  clear hq
  obtain ⟨rfl, rfl, rfl, rfl⟩ := hv
  have HI0 := Lib.hid (fun W (hb : Below (w.alloc (.cells #[.string (toB op), .int .i64 n, .string (toB nm), .slice (some ⟨g, off, none⟩) [y0].length c] 25)).heap.size (w.alloc (.cells #[.string (toB op), .int .i64 n, .string (toB nm), .slice (some ⟨g, off, none⟩) [y0].length c] 25)) W) => IH0 _ W (hx0.below hb) ((hp.keep ba).keep hb))
  rw [if_pos rfl] at HI0
  generalize shi y0 = T0 at *
  have hszT0 := toB_size T0
  clear ba hx hop hp hA hL hx0 IH0
  have hk1 : ¬ 9223372036854775807 < (toB op).size + T0.length := by omega
  have hk2 : ¬ 9223372036854775807 < T0.length + (toB op).size := by omega
  have hk3 : ¬ 9223372036854775807 < 1 + T0.length := by omega
  have hk4 : ¬ 9223372036854775807 < 2 + T0.length := by omega
  have hk5 : ¬ 9223372036854775807 < T0.length + 2 := by omega
  go_enter Tryz.func41, Tryz.ntmps41
  obtain ⟨c0, c1, c2, c3, cf⟩ := F.out.cells
  go_upto_region 14 with fail
  generalize w.alloc (.cells #[.string (toB op), .int .i64 n, .string (toB nm), .slice (some ⟨g, off, none⟩) [y0].length c] 25) = w1 at *
  generalize y0.op = opy at *
  go_wp2_with fail
  refine (HI0.out _ (Below.refl _ _)).mono ?_
  rintro e w2 ⟨rfl, hb2⟩
  have HB2 := Lib.hid (HB.out.trans (hb2.mono HB.out.size))
  obtain ⟨d0, d1, d2, d3, df⟩ := (Four.keep F.out hb2).cells
  clear hb2 c0 c1 c2 c3 cf p00 p01 p02 p03
  go_wp2_with fail
  go_ret
  refine ⟨ret_tx ?_, HB2.out⟩
  rw [HOp.out]
  try rw [toB_ext]
  rw [toB_app]
  first | rfl | (congr 1; simp)

set_option maxRecDepth 100000 in
set_option maxHeartbeats 3200000 in
theorem rshow_u6 (P : Nat → Prop) (n : Int) (nm : List UInt8) (y0 : Ex) (hy0 : (shi y0).length ≤ 1000000) (IH0 : RS P y0 true) : RS P (.mk [118, 43, 43] n nm [y0]) false := by
  intro v w hx hp
  obtain ⟨op, hop⟩ : ∃ op, ([118, 43, 43] : List UInt8) = op := ⟨_, rfl⟩
  rw [hop] at hx
  obtain ⟨A, c, rfl, _, hA⟩ := hx.parts
  have HOp := Lib.hid hop.symm
  have f0 : ((toB op).toList == [110]) = false := by rw [toB_toList, HOp.out]; rfl
  have f1 : ((toB op).toList == [118]) = false := by rw [toB_toList, HOp.out]; rfl
  have f2 : ((toB op).toList == [101]) = false := by rw [toB_toList, HOp.out]; rfl
  have f3 : ((toB op).toList == [117, 45]) = false := by rw [toB_toList, HOp.out]; rfl
  have f4 : ((toB op).toList == [117, 43]) = false := by rw [toB_toList, HOp.out]; rfl
  have f5 : ((toB op).toList == [33]) = false := by rw [toB_toList, HOp.out]; rfl
  have f6 : ((toB op).toList == [126]) = false := by rw [toB_toList, HOp.out]; rfl
  have f7 : ((toB op).toList == [43, 43, 118]) = false := by rw [toB_toList, HOp.out]; rfl
  have f8 : ((toB op).toList == [45, 45, 118]) = false := by rw [toB_toList, HOp.out]; rfl
  have f9 : ((toB op).toList == [118, 43, 43]) = true := by rw [toB_toList, HOp.out]; rfl
  rw [if_neg (by decide), show shw (.mk [118, 43, 43] n nm [y0]) = [] ++ (shi y0 ++ [43, 43]) from rfl]
  have hszO : (toB op).size = 3 := by rw [toB_size, HOp.out]; rfl
  have ba := (Below.refl w.heap.size w).alloc (Nat.le_refl _) (.cells #[.string (toB op), .int .i64 n, .string (toB nm), .slice A [y0].length c] 25)
  have HB := Lib.hid ba
  have F := Lib.hid (Four.new w (.string (toB op)) (.int .i64 n) (.string (toB nm)) (.slice A [y0].length c))
  obtain ⟨g, off, rfl, _, hg, hL⟩ := hA.below ba (by simp)
  obtain ⟨v0, v1, v2, v3, p00, p01, p02, p03, hx0⟩ := ex0 hL
  obtain ⟨n0, A0, k0, z0, nm0, hv, hq⟩ := hx0.form
  simp only [Value.agg.injEq, Array.mk.injEq, List.cons.injEq, and_true] at hv
  clear hq
  obtain ⟨rfl, rfl, rfl, rfl⟩ := hv
  have HI0 := Lib.hid (fun W (hb : Below (w.alloc (.cells #[.string (toB op), .int .i64 n, .string (toB nm), .slice (some ⟨g, off, none⟩) [y0].length c] 25)).heap.size (w.alloc (.cells #[.string (toB op), .int .i64 n, .string (toB nm), .slice (some ⟨g, off, none⟩) [y0].length c] 25)) W) => IH0 _ W (hx0.below hb) ((hp.keep ba).keep hb))
  rw [if_pos rfl] at HI0
  generalize shi y0 = T0 at *
  have hszT0 := toB_size T0
  clear ba hx hop hp hA hL hx0 IH0
  have hk1 : ¬ 9223372036854775807 < (toB op).size + T0.length := by omega
  have hk2 : ¬ 9223372036854775807 < T0.length + (toB op).size := by omega
  have hk3 : ¬ 9223372036854775807 < 1 + T0.length := by omega
  have hk4 : ¬ 9223372036854775807 < 2 + T0.length := by omega
  have hk5 : ¬ 9223372036854775807 < T0.length + 2 := by omega
  go_enter Tryz.func41, Tryz.ntmps41
  obtain ⟨c0, c1, c2, c3, cf⟩ := F.out.cells
  go_upto_region 14 with fail
  generalize w.alloc (.cells #[.string (toB op), .int .i64 n, .string (toB nm), .slice (some ⟨g, off, none⟩) [y0].length c] 25) = w1 at *
  generalize y0.op = opy at *
  go_wp2_with fail
  refine (HI0.out _ (Below.refl _ _)).mono ?_
  rintro e w2 ⟨rfl, hb2⟩
  have HB2 := Lib.hid (HB.out.trans (hb2.mono HB.out.size))
  obtain ⟨d0, d1, d2, d3, df⟩ := (Four.keep F.out hb2).cells
  clear hb2 c0 c1 c2 c3 cf p00 p01 p02 p03
  go_wp2_with fail
  go_ret
  refine ⟨ret_tx ?_, HB2.out⟩
  rw [HOp.out]
  try rw [toB_ext]
  rw [toB_app]
  first | rfl | (congr 1; simp)

set_option maxRecDepth 100000 in
set_option maxHeartbeats 3200000 in
theorem rshow_u7 (P : Nat → Prop) (n : Int) (nm : List UInt8) (y0 : Ex) (hy0 : (shi y0).length ≤ 1000000) (IH0 : RS P y0 true) : RS P (.mk [118, 45, 45] n nm [y0]) false := by
  intro v w hx hp
  obtain ⟨op, hop⟩ : ∃ op, ([118, 45, 45] : List UInt8) = op := ⟨_, rfl⟩
  rw [hop] at hx
  obtain ⟨A, c, rfl, _, hA⟩ := hx.parts
  have HOp := Lib.hid hop.symm
  have f0 : ((toB op).toList == [110]) = false := by rw [toB_toList, HOp.out]; rfl
  have f1 : ((toB op).toList == [118]) = false := by rw [toB_toList, HOp.out]; rfl
  have f2 : ((toB op).toList == [101]) = false := by rw [toB_toList, HOp.out]; rfl
  have f3 : ((toB op).toList == [117, 45]) = false := by rw [toB_toList, HOp.out]; rfl
  have f4 : ((toB op).toList == [117, 43]) = false := by rw [toB_toList, HOp.out]; rfl
  have f5 : ((toB op).toList == [33]) = false := by rw [toB_toList, HOp.out]; rfl
  have f6 : ((toB op).toList == [126]) = false := by rw [toB_toList, HOp.out]; rfl
  have f7 : ((toB op).toList == [43, 43, 118]) = false := by rw [toB_toList, HOp.out]; rfl
  have f8 : ((toB op).toList == [45, 45, 118]) = false := by rw [toB_toList, HOp.out]; rfl
  have f9 : ((toB op).toList == [118, 43, 43]) = false := by rw [toB_toList, HOp.out]; rfl
  have f10 : ((toB op).toList == [118, 45, 45]) = true := by rw [toB_toList, HOp.out]; rfl
  rw [if_neg (by decide), show shw (.mk [118, 45, 45] n nm [y0]) = [] ++ (shi y0 ++ [45, 45]) from rfl]
  have hszO : (toB op).size = 3 := by rw [toB_size, HOp.out]; rfl
  have ba := (Below.refl w.heap.size w).alloc (Nat.le_refl _) (.cells #[.string (toB op), .int .i64 n, .string (toB nm), .slice A [y0].length c] 25)
  have HB := Lib.hid ba
  have F := Lib.hid (Four.new w (.string (toB op)) (.int .i64 n) (.string (toB nm)) (.slice A [y0].length c))
  obtain ⟨g, off, rfl, _, hg, hL⟩ := hA.below ba (by simp)
  obtain ⟨v0, v1, v2, v3, p00, p01, p02, p03, hx0⟩ := ex0 hL
  obtain ⟨n0, A0, k0, z0, nm0, hv, hq⟩ := hx0.form
  simp only [Value.agg.injEq, Array.mk.injEq, List.cons.injEq, and_true] at hv
  clear hq
  obtain ⟨rfl, rfl, rfl, rfl⟩ := hv
  have HI0 := Lib.hid (fun W (hb : Below (w.alloc (.cells #[.string (toB op), .int .i64 n, .string (toB nm), .slice (some ⟨g, off, none⟩) [y0].length c] 25)).heap.size (w.alloc (.cells #[.string (toB op), .int .i64 n, .string (toB nm), .slice (some ⟨g, off, none⟩) [y0].length c] 25)) W) => IH0 _ W (hx0.below hb) ((hp.keep ba).keep hb))
  rw [if_pos rfl] at HI0
  generalize shi y0 = T0 at *
  have hszT0 := toB_size T0
  clear ba hx hop hp hA hL hx0 IH0
  have hk1 : ¬ 9223372036854775807 < (toB op).size + T0.length := by omega
  have hk2 : ¬ 9223372036854775807 < T0.length + (toB op).size := by omega
  have hk3 : ¬ 9223372036854775807 < 1 + T0.length := by omega
  have hk4 : ¬ 9223372036854775807 < 2 + T0.length := by omega
  have hk5 : ¬ 9223372036854775807 < T0.length + 2 := by omega
  go_enter Tryz.func41, Tryz.ntmps41
  obtain ⟨c0, c1, c2, c3, cf⟩ := F.out.cells
  go_upto_region 14 with fail
  generalize w.alloc (.cells #[.string (toB op), .int .i64 n, .string (toB nm), .slice (some ⟨g, off, none⟩) [y0].length c] 25) = w1 at *
  generalize y0.op = opy at *
  go_wp2_with fail
  refine (HI0.out _ (Below.refl _ _)).mono ?_
  rintro e w2 ⟨rfl, hb2⟩
  have HB2 := Lib.hid (HB.out.trans (hb2.mono HB.out.size))
  obtain ⟨d0, d1, d2, d3, df⟩ := (Four.keep F.out hb2).cells
  clear hb2 c0 c1 c2 c3 cf p00 p01 p02 p03
  go_wp2_with fail
  go_ret
  refine ⟨ret_tx ?_, HB2.out⟩
  rw [HOp.out]
  try rw [toB_ext]
  rw [toB_app]
  first | rfl | (congr 1; simp)

end Go.Proofs.YtiigclkebnmopaaGreatDoor
