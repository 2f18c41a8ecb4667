/- Decimals in memory: the product, the quotient. -/
import Derived.Test.YthodlgjfmddemaaGreatDoorRkY
namespace Go.Proofs.YthodlgjfmddemaaGreatDoor.Rk
open Go.RowKit

/-- the boxes' cells -/
def Six (g : Nat) (d e : Dec) (v1 v2 : Value) (W : World) : Prop := W.cell? ⟨g, 0, none⟩ = some (.bool d.below) ∧ W.cell? ⟨g, 1, none⟩ = some v1 ∧ W.cell? ⟨g, 2, none⟩ = some (.int .i64 (d.scale : Int)) ∧ W.cell? ⟨g + 1, 0, none⟩ = some (.bool e.below) ∧ W.cell? ⟨g + 1, 1, none⟩ = some v2 ∧ W.cell? ⟨g + 1, 2, none⟩ = some (.int .i64 (e.scale : Int))
theorem Six.of {w0 w : World} {g : Nat} {d e : Dec} {v1 v2 : Value} (h : Two w0 w g (.bool d.below) v1 (.int .i64 (d.scale : Int)) (.bool e.below) v2 (.int .i64 (e.scale : Int))) : Six g d e v1 v2 w := by
  obtain ⟨a0, a1, a2, _⟩ := h.a.cells
  obtain ⟨b0, b1, b2, _⟩ := h.b.cells
  exact ⟨a0, a1, a2, b0, b1, b2⟩
/-- the two boxes and the result's block, behind calls -/
structure Bx (w0 w : World) (g : Nat) (d e : Dec) (v1 v2 : Value) : Prop where
  two : Two w0 w g (.bool d.below) v1 (.int .i64 (d.scale : Int)) (.bool e.below) v2 (.int .i64 (e.scale : Int))
  res : B3 w (g + 1 + 1) (.bool false) (.slice none 0 0) (.int .i64 0)
  n1 : NL w v1 d.n
  n2 : NL w v2 e.n
theorem Bx.keep {w0 w w' : World} {g : Nat} {d e : Dec} {v1 v2 : Value} (h : Bx w0 w g d e v1 v2) (hb : Below w.heap.size w w') : Bx w0 w' g d e v1 v2 := ⟨h.two.keep hb, h.res.below hb, h.n1.keep hb, h.n2.keep hb⟩
theorem Bx.drew {w0 w : World} {g : Nat} {d e : Dec} {v1 v2 : Value} (h : Bx w0 w g d e v1 v2) : Bx w0 w.drew g d e v1 v2 := h.keep (below_drewN (Below.refl _ _) 1)
theorem Bx.six {w0 w : World} {g : Nat} {d e : Dec} {v1 v2 : Value} (h : Bx w0 w g d e v1 v2) : Six g d e v1 v2 w := Six.of h.two
theorem Bx.new (w : World) (d e : Dec) (v1 v2 : Value) (h1 : NL w v1 d.n) (h2 : NL w v2 e.n) :
    Bx w (((w.alloc (.cells #[.bool d.below, v1, .int .i64 (d.scale : Int)] 48)).alloc (.cells #[.bool e.below, v2, .int .i64 (e.scale : Int)] 48)).alloc (.cells #[.bool false, .slice none 0 0, .int .i64 0] 48)) w.heap.size d e v1 v2 := by
  have h := (Two.new w (.bool d.below) v1 (.int .i64 (d.scale : Int)) (.bool e.below) v2 (.int .i64 (e.scale : Int))).more (.cells #[.bool false, .slice none 0 0, .int .i64 0] 48)
  exact ⟨h, res_new w _ _ _ _ _ _, h1.keep h.below, h2.keep h.below⟩
theorem nl_mul {x y a b : Nat} (hx : nl x ≤ a) (hy : nl y ≤ b) : nl (x * y) ≤ a + b := by
  refine (lt_pow_iff _ _).1 ?_
  rw [Nat.pow_add]
  exact Nat.mul_lt_mul'' ((lt_pow_iff _ _).2 hx) ((lt_pow_iff _ _).2 hy)
set_option maxRecDepth 100000 in
set_option maxHeartbeats 6400000 in
theorem dproduct_any (u v : Value) (d e : Dec) (w : World) (hu : DecV w u d) (hv : DecV w v e) (hd : nl d.n ≤ 1000) (he : nl e.n ≤ 1000) (hds : d.scale ≤ 1000) (hes : e.scale ≤ 1000) :
    Calls Tryz.prog 28 #[u, v] w (RetD (d.product e) w) := by
  obtain ⟨nu, rfl, hnu⟩ := hu
  obtain ⟨nv, rfl, hnv⟩ := hv
  obtain ⟨A, c, rfl, _, _⟩ := RL.form hnu
  obtain ⟨A2, c2, rfl, _, _⟩ := RL.form hnv
  obtain ⟨D, hD⟩ : ∃ D, D = d.product e := ⟨_, rfl⟩
  rw [← hD]
  have hX := Bx.new w d e _ _ hnu hnv
  obtain ⟨w1, hw1⟩ : ∃ w1, w1 = ((w.alloc (.cells #[.bool d.below, .slice A (nl d.n) c, .int .i64 (d.scale : Int)] 48)).alloc (.cells #[.bool e.below, .slice A2 (nl e.n) c2, .int .i64 (e.scale : Int)] 48)).alloc (.cells #[.bool false, .slice none 0 0, .int .i64 0] 48) := ⟨_, rfl⟩
  rw [← hw1] at hX
  obtain ⟨g, hg⟩ : ∃ g, g = w.heap.size := ⟨_, rfl⟩
  have HBn := Lib.hid (show w.heap.size ≤ g + 1 + 1 by omega)
  have HG := Lib.hid hg
  have HW1 := Lib.hid hw1
  have HX := Lib.hid hX
  have HD := Lib.hid hD
  clear hX hw1 hg hnu hnv hD
  obtain ⟨s, hs⟩ : ∃ s, s = d.scale + e.scale := ⟨_, rfl⟩
  have e1 : IntKind.i64.wrap ((d.scale : Int) + (e.scale : Int)) = (s : Int) := by rw [hs]; exact i64_sum _ _ (by omega)
  have HCl := Lib.hid (fun v W (h : DecV W v ⟨d.below != e.below, d.n * e.n, s⟩) => (show Dec.clean ⟨d.below != e.below, d.n * e.n, s⟩ = D by rw [HD.out, hs]; rfl) ▸ clean_any v ⟨d.below != e.below, d.n * e.n, s⟩ W h)
  clear hs
  go_enter Tryz.func28, Tryz.ntmps28
  go_upto_region 1 with fail
  rw [← HW1.out, ← HG.out]
  rw [← HG.out] at HX
  have HX1 := Lib.hid HX.out.drew
  have hS : Six g d e (.slice A (nl d.n) c) (.slice A2 (nl e.n) c2) w1.drew := HX1.out.six
  unfold Six at hS
  refine wp_region_tail 17 (fun W => W.cell? ⟨g, 0, none⟩ = some (.bool d.below) ∧ W.cell? ⟨g, 1, none⟩ = some (.slice A (nl d.n) c) ∧ W.cell? ⟨g, 2, none⟩ = some (.int .i64 (d.scale : Int)) ∧ W.cell? ⟨g + 1, 0, none⟩ = some (.bool e.below) ∧ W.cell? ⟨g + 1, 1, none⟩ = some (.slice A2 (nl e.n) c2) ∧ W.cell? ⟨g + 1, 2, none⟩ = some (.int .i64 (e.scale : Int))) (by kernel_rfl) (by decide) ?_
  refine wpAnyT_take 99 0 (v := ?_) (by kernel_rfl) rfl (by kernel_rfl) (fun _ _ _ h => h) (Or.inl ⟨by rfl, fun W hW => ?_⟩) (by with_reducible assumption) ?_
  rotate_left
  focus ((try dsimp only at hW); go_simp; try with_reducible rfl)
  refine wpAnyT_take 99 1 (v := ?_) (by kernel_rfl) rfl (by kernel_rfl) (fun _ _ _ h => h) (Or.inl ⟨by rfl, fun W hW => ?_⟩) (by with_reducible assumption) ?_
  rotate_left
  focus ((try dsimp only at hW); go_simp; try with_reducible rfl)
  refine wpAnyT_take 99 2 (v := ?_) (by kernel_rfl) rfl (by kernel_rfl) (fun _ _ _ h => h) (Or.inl ⟨by rfl, fun W hW => ?_⟩) (by with_reducible assumption) ?_
  rotate_left
  focus ((try dsimp only at hW); go_simp; try with_reducible rfl)
  refine wpAnyT_take 99 3 (v := ?_) (by kernel_rfl) rfl (by kernel_rfl) (fun _ _ _ h => h) (Or.inl ⟨by rfl, fun W hW => ?_⟩) (by with_reducible assumption) ?_
  rotate_left
  focus ((try dsimp only at hW); go_simp; try with_reducible rfl)
  refine wpAnyT_take 99 4 (v := ?_) (by kernel_rfl) rfl (by kernel_rfl) (fun _ _ _ h => h) (Or.inl ⟨by rfl, fun W hW => ?_⟩) (by with_reducible assumption) ?_
  rotate_left
  focus ((try dsimp only at hW); go_simp; try with_reducible rfl)
  refine wpAnyT_take 99 5 (v := ?_) (by kernel_rfl) rfl (by kernel_rfl) (fun _ _ _ h => h) (Or.inl ⟨by rfl, fun W hW => ?_⟩) (by with_reducible assumption) ?_
  rotate_left
  focus ((try dsimp only at hW); go_simp; try with_reducible rfl)
  refine wpAnyT_take 99 6 (v := ?_) (by kernel_rfl) rfl (by kernel_rfl) (fun _ _ _ h => h) (Or.inl ⟨by rfl, fun W hW => ?_⟩) (by with_reducible assumption) ?_
  rotate_left
  focus ((try dsimp only at hW); go_simp; try with_reducible rfl)
  refine wpAnyT_take 99 7 (v := ?_) (by kernel_rfl) rfl (by kernel_rfl) (fun _ _ _ h => h) (Or.inl ⟨by rfl, fun W hW => ?_⟩) (by with_reducible assumption) ?_
  rotate_left
  focus ((try dsimp only at hW); go_simp; try with_reducible rfl)
  refine wpAnyT_take 99 8 (v := ?_) (by kernel_rfl) rfl (by kernel_rfl) (fun _ _ _ h => h) (Or.inl ⟨by rfl, fun W hW => ?_⟩) (by with_reducible assumption) ?_
  rotate_left
  focus ((try dsimp only at hW); go_simp; try with_reducible rfl)
  refine wpAnyT_take 99 10 (v := ?_) (by kernel_rfl) rfl (by kernel_rfl) (fun _ _ _ h => h) (Or.inl ⟨by rfl, fun W hW => ?_⟩) (by with_reducible assumption) ?_
  rotate_left
  focus ((try dsimp only at hW); go_simp; try with_reducible rfl)
  refine wpAnyT_take 99 11 (v := ?_) (by kernel_rfl) rfl (by kernel_rfl) (fun _ _ _ h => h) (Or.inl ⟨by rfl, fun W hW => ?_⟩) (by with_reducible assumption) ?_
  rotate_left
  focus ((try dsimp only at hW); go_simp; try with_reducible rfl)
  refine wpAnyT_take 99 12 (v := ?_) (by kernel_rfl) rfl (by kernel_rfl) (fun _ _ _ h => h) (Or.inl ⟨by rfl, fun W hW => ?_⟩) (by with_reducible assumption) ?_
  rotate_left
  focus ((try dsimp only at hW); go_simp; try with_reducible rfl)
  refine wpAnyT_take 99 13 (v := ?_) (by kernel_rfl) rfl (by kernel_rfl) (fun _ _ _ h => h) (Or.inl ⟨by rfl, fun W hW => ?_⟩) (by with_reducible assumption) ?_
  rotate_left
  focus ((try dsimp only at hW); go_simp; try with_reducible rfl)
  refine wpAnyT_take 99 14 (v := ?_) (by kernel_rfl) rfl (by kernel_rfl) (fun _ _ _ h => h) (Or.inl ⟨by rfl, fun W hW => ?_⟩) (by with_reducible assumption) ?_
  rotate_left
  focus ((try dsimp only at hW); go_simp; try with_reducible rfl)
  refine wpAnyT_one 9 (by kernel_rfl) (by decide) ?_
  refine wpOp_at rfl rfl (fun K hK => ?_)
  simp only [Act.put, List.getElem_toArray, List.getElem_cons_zero, List.getElem_cons_succ, List.setIfInBounds_toArray, List.set_cons_zero, List.set_cons_succ]
  go_simp
  refine (times_any _ _ d.n e.n _ HX1.out.n1 HX1.out.n2 (by omega) (by omega)).mono ?_
  rintro x w2 ⟨r, rfl, hr, hb2⟩
  obtain ⟨A8, c8, rfl, _, _⟩ := RL.form hr
  have HX2 := Lib.hid (HX1.out.keep hb2)
  have HR := Lib.hid hr
  have hS2 : Six g d e (.slice A (nl d.n) c) (.slice A2 (nl e.n) c2) w2 := HX2.out.six
  unfold Six at hS2
  clear hr hb2 hS
  refine hK.out _ _ ⟨hS2, ?_⟩
  clear hK K
  refine wpAnyT_take 99 15 (v := ?_) (by kernel_rfl) rfl (by kernel_rfl) (fun _ _ _ h => h) (Or.inl ⟨by rfl, fun W hW => ?_⟩) (by with_reducible assumption) ?_
  rotate_left
  focus ((try dsimp only at hW); go_simp; try with_reducible rfl)
  refine wpAnyT_one 16 (by kernel_rfl) (by decide) ?_
  refine wpOp_at rfl rfl (fun K hK => ?_)
  go_simp
  refine (HCl.out _ _ ⟨_, rfl, HR.out⟩).mono ?_
  rintro x w3 ⟨v3, rfl, ⟨nv3, rfl, hn3⟩, hb3⟩
  obtain ⟨A7, c7, rfl, _, _⟩ := RL.form hn3
  have HX3 := Lib.hid (HX2.out.keep hb3)
  have hS3 : Six g d e (.slice A (nl d.n) c) (.slice A2 (nl e.n) c2) w3 := HX3.out.six
  unfold Six at hS3
  have HF := Lib.hid (ret3 (w0 := w) (d := D) HX3.out.res HX3.out.res.noU hn3 HX3.out.two.below HBn.out rfl)
  clear hn3 hb3 hS2
  refine hK.out _ _ ⟨hS3, ?_⟩
  clear hK K
  refine ⟨by kernel_rfl, ?_⟩
  simp only [List.drop_succ_cons, List.drop_zero]
  obtain ⟨y0, y1, y2, yf⟩ := HX3.out.res.cells
  clear hS3
  go_wp2_with fail
  obtain ⟨z0, z1, z2, _⟩ := HF.out.1.cells
  exact bodyPost_ret (v := .agg (dcs D.below (.slice A7 (nl D.n) c7) D.scale)) (by simp [results, Tryz.results28, go_sem, z0, z1, z2]) rfl HF.out.2
end Go.Proofs.YthodlgjfmddemaaGreatDoor.Rk
