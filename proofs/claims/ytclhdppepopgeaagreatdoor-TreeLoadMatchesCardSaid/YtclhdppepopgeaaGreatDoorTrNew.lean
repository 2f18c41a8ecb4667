/- The tree's lists: a new tree. -/
import Derived.Test.YtclhdppepopgeaaGreatDoorTrPut
namespace Go.Proofs.YtclhdppepopgeaaGreatDoor
open Go.RowKit

theorem new_one (w : World) (y : Value) (t : TypeId) : ∀ j z, [y][j]? = some z → (w.alloc (.cells #[y] t)).cell? ((⟨w.heap.size, 0, none⟩ : Addr).add j) = some z := cell_one_new w y t
theorem volInfo : (Tryz.prog.info? 108).map (fun i => (i.zero, i.size, i.bytes)) = some (some (.pointer none), 1, 8) := by kernel_rfl
/-- the first pointer in a list -/
theorem app_vol {ops : Array Oper} {rest : List Oper} {o : Oper} {a : Act} {Q : Exit → Act → World → Prop} {w : World} (hgd : o.guard = none) (s x : Operand)
    (ho : o.op = .call { callee := .builtin .append, args := #[s, x], argTypes := #[65, 65] })
    (hs : a.eval s = .slice none 0 0) (y : Nat) (hx : a.eval x = .slice (some ⟨w.heap.size, 0, none⟩) 1 1)
    (h : ∀ g c w' cs, 1 ≤ c → w'.heap[g]? = some (.cells cs 108 (0, 0)) → cs[0]? = some (ptr y) → w.heap.size ≤ g → Below w.heap.size w w' → wpList Tryz.prog ops Q rest (a.put o.dst (.slice (some ⟨g, 0, none⟩) 1 c)) w') : wpList Tryz.prog ops Q (o :: rest) a (w.alloc (.cells #[ptr y] 108)) := by
  obtain ⟨i0, hi, hz0, hz1, hz2⟩ := info_parts volInfo
  refine wpList_append_own _ hgd s x 65 ho w.heap.size 108 i0 (.pointer none) 1 8 Tryz.underlying65 hi hz0 hz1 hz2 rfl (by decide) _ 0 [] hs (World.ownsRow_nil _ _ _ _) ⟨w.heap.size, 0, none⟩ 1 1 [ptr y] hx rfl (new_one w _ _) (fun u hu => by simp at hu; subst hu; rfl) (by decide) (by decide) (by simp) ?_
  intro v' w' h1 h2 _
  rcases h1.2 with ⟨_, h0⟩ | ⟨g, cap, cur, rfl, hb, hh, hc, _, hcs, ht⟩
  · exact absurd h0 (by decide)
  · refine h g cap w' cur (by omega) hh ?_ hb (((Below.refl _ w).alloc (Nat.le_refl _) _).grown h2 (by simp) (fun g hg => by cases hg))
    have e : cur.toList[0]? = (cur.toList.take ((0 + 1) * 1))[0]? := by simp
    rw [ht] at e
    simpa using e

/-- a new tree in memory -/
structure NewT (w : World) (B t mn x e vb vo vc : Nat) (d : ND) (ch : Int) : Prop where
  tree : w.heap[t]? = some (.cells (trC mn 1 (.int .i64 ch) (.slice (some ⟨vb, 0, none⟩) 1 vc)) 67 (0, 0))
  nodes : MapAt w mn (iL [((1 : Int), ptr x)])
  node : NodeAt w x 0 d (.map (some e))
  ent : MapAt w e []
  volr : ∃ cs, w.heap[vb]? = some (.cells cs 108 (0, 0)) ∧ cs[0]? = some (ptr vo)
  volb : w.heap[vo]? = some (.cells #[.int .i64 1048576, .bool false, ptr x, .pointer none] 107 (0, 0))
  vcp : 1 ≤ vc
  bt : B ≤ t
  bm : B ≤ mn
  bx : B ≤ x
  be : B ≤ e
  bv : B ≤ vb
  bo : B ≤ vo
  em : e ≠ mn
def d0 : ND := ⟨2, 493, 0, 0, noneB, 0⟩

set_option maxRecDepth 100000 in
set_option maxHeartbeats 6400000 in
theorem grow_any (w : World) (B t mn : Nat) (ht : w.heap[t]? = some (.cells (trC mn 0 (.int .i64 0) (.slice none 0 0)) 67 (0, 0))) (hm : MapAt w mn []) (hB : B ≤ t) (hBm : B ≤ mn) (hBw : B ≤ w.heap.size) :
    Calls Tryz.prog 38 #[ptr t, .int .i64 1048576] w fun r w' => ∃ x e vb vo vc, r = .returned (.tuple #[]) ∧ NewT w' B t mn x e vb vo vc d0 0 ∧ Below B w w' := by
  obtain ⟨x, hx⟩ : ∃ x, x = w.heap.size := ⟨_, rfl⟩
  obtain ⟨w1, hw1⟩ : ∃ z, z = w.alloc (.cells (rawC d0) 70) := ⟨_, rfl⟩
  have hb1 : Below w.heap.size w w1 := by rw [hw1]; exact (Below.refl _ w).alloc (Nat.le_refl _) _
  have hx1 : w1.heap[x]? = some (.cells (rawC d0) 70 (0, 0)) := by rw [hw1, hx]; exact heap_alloc_new w _
  have ht1 := (hb1.block t (Array.getElem?_eq_some_iff.1 ht).1).trans ht
  have hadd := add_any d0 t mn 0 x (.int .i64 0) (.slice none 0 0) [] w1 ht1 (hm.keep hb1) rfl hx1 (by omega)
  have HBs : Hid (w1.heap.size = w.heap.size + 1) := Lib.hid (by rw [hw1]; simp)
  have HADD : Hid (Calls Tryz.prog 41 #[ptr t, ptr x] (w.alloc (.cells #[.int .i64 0, .int .i64 0, .int .i64 2, .int .i64 493, .int .i64 0, .int .i64 0, .int .i64 0, .int .i64 0, .int .i64 0, .int .i64 0, .string ⟨#[]⟩, .map none] 70)) _) := Lib.hid (by rw [hw1] at hadd; exact hadd)
  have t3 : w.cell? ⟨t, 3, none⟩ = some (.slice none 0 0) := by simp [World.cell?, ht]
  have HX : Hid (w.heap.size = x) := Lib.hid hx.symm
  have HW1 : Hid (w.alloc (.cells (rawC d0) 70) = w1) := Lib.hid hw1.symm
  have HB1 := Lib.hid hb1
  have HMN := Lib.hid hm.lt
  have HTL := Lib.hid (Array.getElem?_eq_some_iff.1 ht).1
  clear hw1 hx hb1 hx1 ht1 hm ht hadd
  go_enter Tryz.func38, Tryz.ntmps38
  go_wp2_with fail
  rw [HX.out]
  refine HADD.out.mono ?_
  rintro r w2 ⟨e0, rfl, ht2, hm2, hx2, he2, hF2⟩
  rw [HW1.out] at he2 hF2
  obtain ⟨he2a, he2b⟩ := he2 rfl
  clear he2
  have hem : e0 ≠ mn := by have := HBs.out; have := HMN.out; omega
  have hb2 : Below B w w2 := (HB1.out.mono hBw).trans (hF2.below (B := B) (fun b hb => by have := HX.out; rcases hb with rfl | rfl | rfl <;> omega) (by have := HBs.out; omega))
  have u3 : w2.cell? ⟨t, 3, none⟩ = some (.slice none 0 0) := by simp [World.cell?, ht2]
  have HT2 := Lib.hid ht2
  have HM2 := Lib.hid hm2
  have HX2 := Lib.hid hx2
  have HE2 := Lib.hid he2b
  have HB2 := Lib.hid hb2
  have HEM : Hid (e0 ≠ mn ∧ B ≤ e0 ∧ B ≤ x) := Lib.hid ⟨hem, by have := HBs.out; omega, by have := HX.out; omega⟩
  obtain ⟨vo, hvo⟩ : ∃ vo, vo = w2.heap.size := ⟨_, rfl⟩
  obtain ⟨w3, hw3⟩ : ∃ z, z = w2.alloc (.cells #[.int .i64 1048576, .bool false, ptr x, .pointer none] 107) := ⟨_, rfl⟩
  have hb3 : Below w2.heap.size w2 w3 := by rw [hw3]; exact (Below.refl _ w2).alloc (Nat.le_refl _) _
  have HB3 := Lib.hid hb3
  have HV3 : Hid (w3.heap[vo]? = some (.cells #[.int .i64 1048576, .bool false, ptr x, .pointer none] 107 (0, 0))) := Lib.hid (by rw [hw3, hvo]; exact heap_alloc_new w2 _)
  have HW3 : Hid (w2.alloc (.cells #[.int .i64 1048576, .bool false, ptr x, .pointer none] 107) = w3) := Lib.hid hw3.symm
  have HVO : Hid (w2.heap.size = vo) := Lib.hid hvo.symm
  have HSZ : Hid (w2.heap.size + 1 = w3.heap.size) := Lib.hid (by rw [hw3]; simp)
  clear hw3 hvo hb3 ht2 hm2 hx2 he2a he2b hF2 hb2 hem t3
  go_upto_region 1 with fail
  iterate 30 (first | go_values | go_skip | go_guarded | go_step | go_upon | go_back)
  rw [HSZ.out, HW3.out, HVO.out]
  iterate 1 (first | go_values | go_skip | go_guarded | go_step | go_upon | go_back)
  refine app_vol (w := w3) rfl _ _ (by rfl) (by rfl) vo (by rfl) ?_
  intro g c w5 cs hc hg hcs hgs hb5
  have hb53 := HB3.out.trans (hb5.mono HB3.out.size)
  have ht5 : w5.heap[t]? = some (.cells (trC mn 1 (.int .i64 0) (.slice none 0 0)) 67 (0, 0)) := (hb53.block t (Array.getElem?_eq_some_iff.1 HT2.out).1).trans HT2.out
  have t5 : w5.cell? ⟨t, 3, none⟩ = some (.slice none 0 0) := by simp [World.cell?, ht5]
  have t5f : w5.frozen? ⟨t, 3, none⟩ = false := by simp [World.frozen?, ht5]
  have hm5 : MapAt w5 mn (iL [((1 : Int), ptr x)]) := HM2.out.keep hb53
  have hx5 : NodeAt w5 x 0 d0 (.map (some e0)) := NodeAt.keep (w := w2) ⟨0, 0, HX2.out⟩ hb53
  have he5 : MapAt w5 e0 [] := HE2.out.keep hb53
  have hv5 : w5.heap[vo]? = some (.cells #[.int .i64 1048576, .bool false, ptr x, .pointer none] 107 (0, 0)) := (hb5.block vo (Array.getElem?_eq_some_iff.1 HV3.out).1).trans HV3.out
  have hmt : mn ≠ t := fun e => by have h := hm5; unfold MapAt at h; rw [e, ht5] at h; injection h with h; cases h
  have het : e0 ≠ t := fun e => by have h := he5; unfold MapAt at h; rw [e, ht5] at h; injection h with h; cases h
  have hxt : x ≠ t := fun e => by obtain ⟨_, _, h⟩ := hx5; rw [e, ht5] at h; injection h with h; injection h with _ h; cases h
  have hvt : vo ≠ t := fun e => by have h := hv5; rw [e, ht5] at h; injection h with h; injection h with _ h; cases h
  have hgt : g ≠ t := fun e => by have h := hg; rw [e, ht5] at h; injection h with h; injection h with _ h; cases h
  obtain ⟨w6, hw6⟩ : ∃ z, z = w5.setCell ⟨t, 3, none⟩ (.slice (some ⟨g, 0, none⟩) 1 c) := ⟨_, rfl⟩
  have HN : Hid (NewT w6 B t mn x e0 g vo c d0 0) := Lib.hid (by
    have hs := HSZ.out
    have hv := HVO.out
    have hbs := HB2.out.size
    have k : ∀ b o, b ≠ t → w5.heap[b]? = some o → w6.heap[b]? = some o := fun b o hb ho => by rw [hw6]; exact (heap_setCell_other w5 ⟨t, 3, none⟩ b _ hb).trans ho
    refine ⟨by rw [hw6]; exact heap_setCell_same w5 t 3 _ _ _ ht5, k _ _ hmt hm5, ?_, k _ _ het he5, ⟨cs, k _ _ hgt hg, hcs⟩, k _ _ hvt hv5, hc, hB, hBm, HEM.out.2.2, HEM.out.2.1, by omega, by omega, HEM.out.1⟩
    obtain ⟨a1, a2, h⟩ := hx5
    exact ⟨a1, a2, k _ _ hxt h⟩)
  have HBF : Hid (Below B w w6) := Lib.hid (by rw [hw6]; exact (HB2.out.trans (hb53.mono (Nat.le_trans hBw HB2.out.size))).setCell hB _)
  have HW6 : Hid (w5.setCell ⟨t, 3, none⟩ (.slice (some ⟨g, 0, none⟩) 1 c) = w6) := Lib.hid hw6.symm
  clear hw6 hb53 hm5 hx5 he5 hv5 hmt het hxt hvt hgt hg hcs hgs hb5 ht5
  go_wp2_with fail
  rw [HW6.out]
  go_end0
  exact ⟨x, e0, g, vo, c, rfl, HN.out, HBF.out⟩
set_option maxRecDepth 100000 in
set_option maxHeartbeats 6400000 in
theorem new_any (w : World) (B : Nat) (hB : B ≤ w.heap.size) :
    Calls Tryz.prog 21 #[] w fun r w' => ∃ t mn x e vb vo vc, r = .returned (ptr t) ∧ NewT w' B t mn x e vb vo vc d0 0 ∧ Below B w w' := by
  obtain ⟨mn, hmn⟩ : ∃ x, x = w.heap.size := ⟨_, rfl⟩
  obtain ⟨t, ht⟩ : ∃ x, x = w.heap.size + 1 := ⟨_, rfl⟩
  obtain ⟨W1, hW1⟩ : ∃ z, z = (w.alloc (.map #[] 0)).alloc (.cells #[.map (some mn), .int .i64 0, .int .i64 0, .slice none 0 0] 67) := ⟨_, rfl⟩
  have hb1 : Below B w W1 := by rw [hW1]; exact ((Below.refl _ _).alloc hB _).alloc (by simp; omega) _
  have ht1 : W1.heap[t]? = some (.cells (trC mn 0 (.int .i64 0) (.slice none 0 0)) 67 (0, 0)) := by
    have := heap_alloc_new (w.alloc (.map #[] 0)) (.cells #[.map (some mn), .int .i64 0, .int .i64 0, .slice none 0 0] 67)
    have h2 : W1.heap[t]? = some (.cells #[.map (some mn), .int .i64 0, .int .i64 0, .slice none 0 0] 67 (0, 0)) := by
      rw [hW1, ht]
      simpa using this
    exact h2
  have hm1 : MapAt W1 mn [] := by
    rw [hW1, hmn]
    exact (MapAt.new w).keep ((Below.refl _ _).alloc (Nat.le_refl _) _)
  have HG := Lib.hid (grow_any W1 B t mn ht1 hm1 (by omega) (by omega) (Nat.le_trans hB (by rw [hW1]; simp; omega)))
  have HB1 := Lib.hid hb1
  have HWE : Hid ((w.alloc (.map #[] 0)).alloc (.cells #[.map (some mn), .int .i64 0, .int .i64 0, .slice none 0 0] 67) = W1) := Lib.hid hW1.symm
  have HTE : Hid (mn + 1 = t) := Lib.hid (by rw [ht, hmn])
  have HME : Hid (w.heap.size = mn) := Lib.hid hmn.symm
  clear hb1 ht1 hm1 hW1 ht hmn
  go_enter Tryz.func21, Tryz.ntmps21
  have hmm := @run_makeMap Tryz.prog
  go_upto_region 2 with fail
  rw [HME.out, HTE.out, HWE.out]
  go_wp2_with fail
  refine HG.out.mono ?_
  rintro r w2 ⟨x, e, vb, vo, vc, rfl, hN, hb2⟩
  have HN := Lib.hid hN
  have HB2 : Hid (Below B w w2) := Lib.hid (HB1.out.trans hb2)
  clear hN hb2
  go_wp2_with fail
  go_ret
  exact ⟨t, mn, x, e, vb, vo, vc, rfl, HN.out, HB2.out⟩
end Go.Proofs.YtclhdppepopgeaaGreatDoor
