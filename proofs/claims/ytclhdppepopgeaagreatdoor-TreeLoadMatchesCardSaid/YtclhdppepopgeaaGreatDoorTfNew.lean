/- The tree's lists, the reference: a new file system. -/
import Derived.Test.YtclhdppepopgeaaGreatDoorTfPut
import Derived.Test.YtclhdppepopgeaaGreatDoorTrNew
namespace Go.Proofs.YtclhdppepopgeaaGreatDoor
open Go.RowKit

theorem rvolInfo : (Tryz.prog.info? 48).map (fun i => (i.zero, i.size, i.bytes)) = some (some (.pointer none), 1, 8) := by kernel_rfl
/-- the first pointer in a list -/
theorem app_rvol {ops : Array Oper} {rest : List Oper} {o : Oper} {a : Act} {Q : Exit → Act → World → Prop} {w : World} (hgd : o.guard = none) (s x : Operand)
    (ho : o.op = .call { callee := .builtin .append, args := #[s, x], argTypes := #[50, 50] })
    (hs : a.eval s = .slice none 0 0) (y : Nat) (hx : a.eval x = .slice (some ⟨w.heap.size, 0, none⟩) 1 1)
    (h : ∀ g c w' cs, 1 ≤ c → w'.heap[g]? = some (.cells cs 48 (0, 0)) → cs[0]? = some (ptr y) → w.heap.size ≤ g → Below w.heap.size w w' → wpList Tryz.prog ops Q rest (a.put o.dst (.slice (some ⟨g, 0, none⟩) 1 c)) w') : wpList Tryz.prog ops Q (o :: rest) a (w.alloc (.cells #[ptr y] 48)) := by
  obtain ⟨i0, hi, hz0, hz1, hz2⟩ := info_parts rvolInfo
  refine wpList_append_own _ hgd s x 50 ho w.heap.size 48 i0 (.pointer none) 1 8 Tryz.underlying50 hi hz0 hz1 hz2 rfl (by decide) _ 0 [] hs (World.ownsRow_nil _ _ _ _) ⟨w.heap.size, 0, none⟩ 1 1 [ptr y] hx rfl (new_one w _ _) (fun u hu => by simp at hu; subst hu; rfl) (by decide) (by decide) (by simp) ?_
  intro v' w' h1 h2 _
  rcases h1.2 with ⟨_, h0⟩ | ⟨g, cap, cur, rfl, hb, hh, hc, _, hcs, ht⟩
  · exact absurd h0 (by decide)
  · refine h g cap w' cur (by omega) hh ?_ hb (((Below.refl _ w).alloc (Nat.le_refl _) _).grown h2 (by simp) (fun g hg => by cases hg))
    have e : cur.toList[0]? = (cur.toList.take ((0 + 1) * 1))[0]? := by simp
    rw [ht] at e
    simpa using e

/-- a new file system in memory -/
structure NewR (w : World) (B t mn x e vb vo vc : Nat) (d : ND) (ch : Int) : Prop where
  tree : w.heap[t]? = some (.cells (flC mn 1 (.int .i64 ch) (.slice (some ⟨vb, 0, none⟩) 1 vc)) 52 (0, 0))
  nodes : MapAt w mn (iL [((1 : Int), ptr x)])
  node : RNode vo w x 0 d (.map (some e))
  ent : MapAt w e []
  volr : ∃ cs, w.heap[vb]? = some (.cells cs 48 (0, 0)) ∧ cs[0]? = some (ptr vo)
  volb : w.heap[vo]? = some (.cells #[.int .i64 0, .int .i64 1048576, .bool false, ptr x, .pointer none] 47 (0, 0))
  vcp : 1 ≤ vc
  bt : B ≤ t
  bm : B ≤ mn
  bx : B ≤ x
  be : B ≤ e
  bv : B ≤ vb
  bo : B ≤ vo
  em : e ≠ mn

set_option maxRecDepth 100000 in
set_option maxHeartbeats 3200000 in
theorem volume_any (w : World) (B t mn : Nat) (ht : w.heap[t]? = some (.cells (flC mn 0 (.int .i64 0) (.slice none 0 0)) 52 (0, 0))) (hm : MapAt w mn []) (hB : B ≤ t) (hBm : B ≤ mn) (hBw : B ≤ w.heap.size) :
    Calls Tryz.prog 30 #[ptr t, .int .i64 1048576] w fun r w' => ∃ x e vb vo vc p, r = .returned p ∧ NewR w' B t mn x e vb vo vc d0 0 ∧ Below B w w' := by
  obtain ⟨vo, hvo⟩ : ∃ x, x = w.heap.size := ⟨_, rfl⟩
  obtain ⟨w1, hw1⟩ : ∃ z, z = w.alloc (.cells #[.int .i64 0, .int .i64 1048576, .bool false, .pointer none, .pointer none] 47) := ⟨_, rfl⟩
  have hb1 : Below w.heap.size w w1 := by rw [hw1]; exact (Below.refl _ w).alloc (Nat.le_refl _) _
  have hv1 : w1.heap[vo]? = some (.cells #[.int .i64 0, .int .i64 1048576, .bool false, .pointer none, .pointer none] 47 (0, 0)) := by rw [hw1, hvo]; exact heap_alloc_new w _
  have ht1 := (hb1.block t (Array.getElem?_eq_some_iff.1 ht).1).trans ht
  have HND := Lib.hid (rnode_any 2 493 0 0 noneB t mn 0 vo (.int .i64 0) (.slice none 0 0) [] w1 ht1 (hm.keep hb1) rfl (by omega))
  have t3 : w.cell? ⟨t, 3, none⟩ = some (.slice none 0 0) := by simp [World.cell?, ht]
  have HVO : Hid (w.heap.size = vo) := Lib.hid hvo.symm
  have HW1 : Hid (w.alloc (.cells #[.int .i64 0, .int .i64 1048576, .bool false, .pointer none, .pointer none] 47) = w1) := Lib.hid hw1.symm
  have HB1 := Lib.hid hb1
  have HV1 := Lib.hid hv1
  have HBs : Hid (w1.heap.size = w.heap.size + 1) := Lib.hid (by rw [hw1]; simp)
  have HMN := Lib.hid hm.lt
  have HTL := Lib.hid (Array.getElem?_eq_some_iff.1 ht).1
  clear hw1 hvo hb1 hv1 ht1 hm ht
  go_enter Tryz.func30, Tryz.ntmps30
  go_upto_region 2 with fail
  rw [HVO.out, HW1.out]
  clear t3
  go_wp2_with fail
  refine HND.out.mono ?_
  rintro r w2 ⟨e0, y, rfl, ht2, hm2, hx2, he2, hy, hF2⟩
  obtain ⟨he2a, he2b⟩ := he2 trivial
  clear he2
  have hs := HBs.out
  have hmn := HMN.out
  have htl := HTL.out
  have hvo := HVO.out
  have hv2 := hF2.at HV1.out (fun h => by omega)
  have hB2 : Below B w w2 := (HB1.out.mono hBw).trans (hF2.below (fun b hb => by rcases hb with rfl | rfl <;> omega) (by omega))
  have v3 : w2.cell? ⟨vo, 3, none⟩ = some (.pointer none) := by simp [World.cell?, hv2]
  have v3f : w2.frozen? ⟨vo, 3, none⟩ = false := by simp [World.frozen?, hv2]
  have hF3 : Fx (fun b => b = vo) w2 (w2.setCell ⟨vo, 3, none⟩ (ptr y)) := Fx.setCell (S := fun b => b = vo) w2 rfl 3 _
  have HV3 := Lib.hid (heap_setCell_same w2 vo 3 _ _ (ptr y) hv2)
  have HT3 := Lib.hid (hF3.at ht2 (fun h => by omega))
  have HM3 := Lib.hid (hF3.map hm2 (fun h => by omega))
  have HX3 := Lib.hid (hF3.at hx2 (fun h => by omega))
  have HE3 := Lib.hid (hF3.map he2b (fun h => by omega))
  have HB3 : Hid (Below B w (w2.setCell ⟨vo, 3, none⟩ (ptr y))) := Lib.hid (hB2.trans (hF3.below (fun b hb => by subst hb; omega) (Nat.le_trans hBw hB2.size)))
  have HNE : Hid (e0 ≠ mn ∧ B ≤ e0 ∧ B ≤ y ∧ B ≤ vo) := Lib.hid (by omega)
  clear hF3 hv2 hB2 he2a he2b hx2 hm2 ht2 hF2 hy hs hmn htl hvo
  go_upto_region 3 with fail
  clear v3 v3f
  generalize w2.setCell ⟨vo, 3, none⟩ (ptr y) = w3 at *
  have ht3 := HT3.out
  have u3 : w3.cell? ⟨t, 3, none⟩ = some (.slice none 0 0) := by simp [World.cell?, ht3]
  clear ht3
  go_wp2_with (at_builtin; refine app_rvol (w := w3) rfl _ _ (by rfl) (by rfl) vo (by rfl) ?_; intro g c w5 cs hc hg hcs hgs hb5; have ht5 : w5.heap[t]? = some (.cells (flC mn 1 (.int .i64 0) (.slice none 0 0)) 52 (0, 0)) := (hb5.block t (Array.getElem?_eq_some_iff.1 HT3.out).1).trans HT3.out; have HT5 := Lib.hid ht5; have t5 : w5.cell? ⟨t, 3, none⟩ = some (.slice none 0 0) := (by simp [World.cell?, ht5]); have t5f : w5.frozen? ⟨t, 3, none⟩ = false := (by simp [World.frozen?, ht5]); have HG := Lib.hid hg; have HC := Lib.hid hc; have HCS := Lib.hid hcs; have HB5 := Lib.hid hb5; clear ht5 hg hc hcs hb5 u3)
  have hm5 := HM3.out.keep HB5.out
  have hx5 : RNode vo w5 y 0 d0 (.map (some e0)) := ⟨_, _, (HB5.out.block y (Array.getElem?_eq_some_iff.1 HX3.out).1).trans HX3.out⟩
  have he5 := HE3.out.keep HB5.out
  have hv5 := (HB5.out.block vo (Array.getElem?_eq_some_iff.1 HV3.out).1).trans HV3.out
  have hmt : mn ≠ t := fun e => map_ne hm5 ⟨_, _, HT5.out⟩ e.symm
  have het : e0 ≠ t := fun e => map_ne he5 ⟨_, _, HT5.out⟩ e.symm
  have hxt : y ≠ t := fun e => by obtain ⟨_, _, h⟩ := hx5; rw [e, HT5.out] at h; injection h with h; injection h with _ h; cases h
  have hvt : vo ≠ t := fun e => by have h := hv5; rw [e, HT5.out] at h; injection h with h; injection h with _ h; cases h
  have hgt : g ≠ t := fun e => by have h := HG.out; rw [e, HT5.out] at h; injection h with h; injection h with _ h; cases h
  have hgB : B ≤ g := Nat.le_trans (Nat.le_trans hBw HB3.out.size) hgs
  have k : ∀ b o, b ≠ t → w5.heap[b]? = some o → (w5.setCell ⟨t, 3, none⟩ (.slice (some ⟨g, 0, none⟩) 1 c)).heap[b]? = some o := fun b o hb ho => (heap_setCell_other w5 ⟨t, 3, none⟩ b _ hb).trans ho
  obtain ⟨a1, a2, hx6⟩ := hx5
  have hN : NewR (w5.setCell ⟨t, 3, none⟩ (.slice (some ⟨g, 0, none⟩) 1 c)) B t mn y e0 g vo c d0 0 := ⟨heap_setCell_same w5 t 3 _ _ _ HT5.out, k _ _ hmt hm5, ⟨a1, a2, k _ _ hxt hx6⟩, k _ _ het he5, ⟨cs, k _ _ hgt HG.out, HCS.out⟩, k _ _ hvt hv5, HC.out, hB, hBm, HNE.out.2.2.1, HNE.out.2.1, hgB, HNE.out.2.2.2, HNE.out.1⟩
  have hBF : Below B w (w5.setCell ⟨t, 3, none⟩ (.slice (some ⟨g, 0, none⟩) 1 c)) := (HB3.out.trans (HB5.out.mono (Nat.le_trans hBw HB3.out.size))).setCell hB _
  go_ret
  exact ⟨y, e0, g, vo, c, _, rfl, hN, hBF⟩

set_option maxRecDepth 100000 in
set_option maxHeartbeats 3200000 in
theorem rnew_any (w : World) (B : Nat) (hB : B ≤ w.heap.size) :
    Calls Tryz.prog 11 #[] w fun r w' => ∃ t mn x e vb vo vc, r = .returned (ptr t) ∧ NewR w' B t mn x e vb vo vc d0 0 ∧ Below B w w' := by
  obtain ⟨mn, hmn⟩ : ∃ x, x = w.heap.size := ⟨_, rfl⟩
  obtain ⟨t, ht⟩ : ∃ x, x = w.heap.size + 1 := ⟨_, rfl⟩
  obtain ⟨W1, hW1⟩ : ∃ z, z = (w.alloc (.map #[] 0)).alloc (.cells #[.map (some mn), .int .i64 1, .int .i64 0, .slice none 0 0] 52) := ⟨_, rfl⟩
  have hb1 : Below B w W1 := by rw [hW1]; exact ((Below.refl _ _).alloc hB _).alloc (by simp; omega) _
  have ht1 : W1.heap[t]? = some (.cells (flC mn 0 (.int .i64 0) (.slice none 0 0)) 52 (0, 0)) := by
    have := heap_alloc_new (w.alloc (.map #[] 0)) (.cells #[.map (some mn), .int .i64 1, .int .i64 0, .slice none 0 0] 52)
    have h2 : W1.heap[t]? = some (.cells #[.map (some mn), .int .i64 1, .int .i64 0, .slice none 0 0] 52 (0, 0)) := by
      rw [hW1, ht]
      simpa using this
    exact h2
  have hm1 : MapAt W1 mn [] := by
    rw [hW1, hmn]
    exact (MapAt.new w).keep ((Below.refl _ _).alloc (Nat.le_refl _) _)
  have HG := Lib.hid (volume_any W1 B t mn ht1 hm1 (by omega) (by omega) (Nat.le_trans hB (by rw [hW1]; simp; omega)))
  have HB1 := Lib.hid hb1
  have HWE : Hid ((w.alloc (.map #[] 0)).alloc (.cells #[.map (some mn), .int .i64 1, .int .i64 0, .slice none 0 0] 52) = W1) := Lib.hid hW1.symm
  have HTE : Hid (mn + 1 = t) := Lib.hid (by rw [ht, hmn])
  have HME : Hid (w.heap.size = mn) := Lib.hid hmn.symm
  clear hb1 ht1 hm1 hW1 ht hmn
  go_enter Tryz.func11, Tryz.ntmps11
  have hmm := @run_makeMap Tryz.prog
  go_upto_region 2 with fail
  rw [HME.out, HTE.out, HWE.out]
  go_wp2_with fail
  refine HG.out.mono ?_
  rintro r w2 ⟨x, e, vb, vo, vc, p, rfl, hN, hb2⟩
  have HN := Lib.hid hN
  have HB2 : Hid (Below B w w2) := Lib.hid (HB1.out.trans hb2)
  clear hN hb2
  go_wp2_with fail
  go_ret
  exact ⟨t, mn, x, e, vb, vo, vc, rfl, HN.out, HB2.out⟩
end Go.Proofs.YtclhdppepopgeaaGreatDoor
