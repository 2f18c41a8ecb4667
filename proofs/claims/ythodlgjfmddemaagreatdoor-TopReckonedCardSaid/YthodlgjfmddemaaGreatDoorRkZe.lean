/- Decimals in memory: the root; how many digits a decimal has. -/
import Derived.Test.YthodlgjfmddemaaGreatDoorRkZd
namespace Go.Proofs.YthodlgjfmddemaaGreatDoor.Rk
open Go.RowKit

theorem digs_nl {x m : Nat} (h : nl x ≤ m) : (digs x).length ≤ 9 * m := by
  refine (digs_len _ _).1 ?_
  have := (lt_pow_iff m x).2 h
  rw [show 10 ^ (9 * m) = Bq ^ m by rw [Nat.pow_mul]; rfl]
  exact this
def RootD (d : Dec) (k : Nat) (w : World) (x : Ending) (w' : World) : Prop := ∃ R, RetD ⟨false, R, max k d.scale⟩ w x w' ∧ R * R ≤ d.n * 10 ^ (2 * max k d.scale - d.scale)
set_option maxRecDepth 100000 in
set_option maxHeartbeats 3200000 in
theorem droot_any (u : Value) (d : Dec) (k : Nat) (w : World) (hu : DecV w u d) (hp : Pow w) (hd : nl d.n ≤ 100) (hds : d.scale ≤ 300) (hk : k ≤ 100) :
    Calls Tryz.prog 21 #[u, .int .i64 (k : Int)] w (RootD d k w) := by
  obtain ⟨nu, rfl, hnu⟩ := hu
  obtain ⟨A, c, rfl, _, _⟩ := RL.form hnu
  obtain ⟨M, hM⟩ : ∃ M, M = max k d.scale := ⟨_, rfl⟩
  have e1 : max (k : Int) (d.scale : Int) = (M : Int) := by omega
  obtain ⟨t, ht⟩ : ∃ t, t = 2 * M - d.scale := ⟨_, rfl⟩
  have e2 : IntKind.i64.wrap (2 * (M : Int)) = 2 * (M : Int) := IntWalk.i64_in _ (by omega)
  have e3 : IntKind.i64.wrap (2 * (M : Int) - (d.scale : Int)) = (t : Int) := by
    rw [show 2 * (M : Int) - (d.scale : Int) = (t : Int) by omega]
    exact IntWalk.i64_in _ (by omega)
  obtain ⟨X, hX⟩ : ∃ X, X = d.n * 10 ^ t := ⟨_, rfl⟩
  have hnt := nl_ten t
  have hXn : nl X ≤ 200 := by rw [hX]; exact Nat.le_trans (nl_mul hd hnt) (by omega)
  have HNT := Lib.hid (show nl (10 ^ t) ≤ 100 by omega)
  have HT := Lib.hid (show t ≤ 700 by omega)
  have hXd := digs_nl hXn
  obtain ⟨Q, hQ⟩ : ∃ Q, RootD d k w = Q := ⟨_, rfl⟩
  rw [hQ]
  have HQ := Lib.hid hQ
  have hT := Two.new w (.bool d.below) (.slice A (nl d.n) c) (.int .i64 (d.scale : Int)) (.bool false) (.slice none 0 0) (.int .i64 0)
  obtain ⟨w1, hw1⟩ : ∃ w1, w1 = (w.alloc (.cells #[.bool d.below, .slice A (nl d.n) c, .int .i64 (d.scale : Int)] 48)).alloc (.cells #[.bool false, .slice none 0 0, .int .i64 0] 48) := ⟨_, rfl⟩
  rw [← hw1] at hT
  obtain ⟨g, hg⟩ : ∃ g, g = w.heap.size := ⟨_, rfl⟩
  have HBn := Lib.hid (show w.heap.size ≤ g + 1 by omega)
  have HN := Lib.hid (hnu.keep hT.below)
  have HP := Lib.hid (hp.keep hT.below)
  rw [← hg] at hT
  have HTw := Lib.hid hT
  have HG := Lib.hid hg
  have HW1 := Lib.hid hw1
  have HX := Lib.hid hX
  have HMt := Lib.hid (And.intro hM ht)
  obtain ⟨a0, a1, a2, _⟩ := hT.a.cells
  have hgl := hT.a.lt
  clear hg hT hw1 hX hM ht hQ hnu hp hnt
  go_enter Tryz.func21, Tryz.ntmps21
  go_upto_region 2 with fail
  rw [← HW1.out, ← HG.out]
  have hS : w1.drew.cell? ⟨g, 1, none⟩ = some (.slice A (nl d.n) c) ∧ w1.drew.cell? ⟨g, 2, none⟩ = some (.int .i64 (d.scale : Int)) := ⟨a1, a2⟩
  refine wp_region_tail 12 (fun W => W.cell? ⟨g, 1, none⟩ = some (.slice A (nl d.n) c) ∧ W.cell? ⟨g, 2, none⟩ = some (.int .i64 (d.scale : Int))) (by kernel_rfl) (by decide) ?_
  refine wpAnyT_take 99 0 (v := ?_) (by kernel_rfl) rfl (by kernel_rfl) (fun _ _ _ h => h) (Or.inl ⟨by rfl, fun W hW => ?_⟩) (by with_reducible assumption) ?_
  rotate_left
  focus ((try dsimp only at hW); go_simp; try with_reducible rfl)
  refine wpAnyT_take 99 1 (v := ?_) (by kernel_rfl) rfl (by kernel_rfl) (fun _ _ _ h => h) (Or.inl ⟨by rfl, fun W hW => ?_⟩) (by with_reducible assumption) ?_
  rotate_left
  focus ((try dsimp only at hW); go_simp; try with_reducible rfl)
  refine wpAnyT_take 99 2 (v := ?_) (by kernel_rfl) rfl (by kernel_rfl) (fun _ _ _ h => h) (Or.inl ⟨by rfl, fun W hW => ?_⟩) (by with_reducible assumption) ?_
  rotate_left
  focus ((try dsimp only at hW); go_simp; try with_reducible rfl)
  refine wpAnyT_take 99 3 (v := ?_) (by kernel_rfl) rfl (by kernel_rfl) (fun _ _ _ h => h) (Or.inl ⟨by rfl, fun W hW => ?_⟩) (by with_reducible assumption) ?_
  rotate_left
  focus ((try dsimp only at hW); go_simp; try with_reducible rfl)
  refine wpAnyT_take 99 4 (v := ?_) (by kernel_rfl) rfl (by kernel_rfl) (fun _ _ _ h => h) (Or.inl ⟨by rfl, fun W hW => ?_⟩) (by with_reducible assumption) ?_
  rotate_left
  focus ((try dsimp only at hW); go_simp; try with_reducible rfl)
  refine wpAnyT_take 99 5 (v := ?_) (by kernel_rfl) rfl (by kernel_rfl) (fun _ _ _ h => h) (Or.inl ⟨by rfl, fun W hW => ?_⟩) (by with_reducible assumption) ?_
  rotate_left
  focus ((try dsimp only at hW); go_simp; try with_reducible rfl)
  refine wpAnyT_take 99 6 (v := ?_) (by kernel_rfl) rfl (by kernel_rfl) (fun _ _ _ h => h) (Or.inl ⟨by rfl, fun W hW => ?_⟩) (by with_reducible assumption) ?_
  rotate_left
  focus ((try dsimp only at hW); go_simp; try with_reducible rfl)
  refine wpAnyT_take 99 10 (v := ?_) (by kernel_rfl) rfl (by kernel_rfl) (fun _ _ _ h => h) (Or.inl ⟨by rfl, fun W hW => ?_⟩) (by with_reducible assumption) ?_
  rotate_left
  focus ((try dsimp only at hW); go_simp; try with_reducible rfl)
  refine wpAnyT_one 7 (by kernel_rfl) (by decide) ?_
  refine wpOp_at rfl rfl (fun K hK => ?_)
  simp only [Act.put, List.getElem_toArray, List.getElem_cons_zero, List.getElem_cons_succ, List.setIfInBounds_toArray, List.set_cons_zero, List.set_cons_succ]
  go_simp
  refine (ten_any t _ (by have := HT.out; omega)).mono ?_
  rintro x w2 ⟨r, rfl, hr, hbw2⟩
  have HB2 := Lib.hid (show Below w1.heap.size w1 w2 from (below_drewN (Below.refl _ w1) 1).trans hbw2)
  have HR := Lib.hid hr
  have hS2 := And.intro ((HB2.out.cell (p := ⟨g, 1, none⟩) hgl).trans a1) ((HB2.out.cell (p := ⟨g, 2, none⟩) hgl).trans a2)
  clear hbw2 hS
  clear hr
  refine hK.out _ _ ⟨hS2, ?_⟩
  clear hK K
  refine wpAnyT_one 8 (by kernel_rfl) (by decide) ?_
  refine wpOp_at rfl rfl (fun K hK => ?_)
  go_simp
  refine (times_any _ _ d.n (10 ^ t) _ (HN.out.keep HB2.out) HR.out (by omega) (by have := HNT.out; omega)).mono ?_
  rintro x w3 ⟨r2, rfl, hr2, hbw3⟩
  have HB3 := Lib.hid (HB2.out.trans (hbw3.mono HB2.out.size))
  rw [← HX.out] at hr2
  have HR2 := Lib.hid hr2
  have hS3 := And.intro ((HB3.out.cell (p := ⟨g, 1, none⟩) hgl).trans a1) ((HB3.out.cell (p := ⟨g, 2, none⟩) hgl).trans a2)
  clear hbw3 hS2
  clear hr2
  refine hK.out _ _ ⟨hS3, ?_⟩
  clear hK K
  refine wpAnyT_one 9 (by kernel_rfl) (by decide) ?_
  refine wpOp_at rfl rfl (fun K hK => ?_)
  go_simp
  refine (nroot_any _ X _ HR2.out (HP.out.keep HB3.out) (by omega)).mono ?_
  rintro x w4 ⟨r3, R, rfl, hr3, hRR, hbw4⟩
  have HB4 := Lib.hid (HB3.out.trans (hbw4.mono HB3.out.size))
  obtain ⟨A7, c7, rfl, _, _⟩ := RL.form hr3
  have HR3 := Lib.hid hr3
  have HRR := Lib.hid hRR
  have hS4 := And.intro ((HB4.out.cell (p := ⟨g, 1, none⟩) hgl).trans a1) ((HB4.out.cell (p := ⟨g, 2, none⟩) hgl).trans a2)
  clear hbw4 hS3
  clear hr3 hRR
  refine hK.out _ _ ⟨hS4, ?_⟩
  clear hK K
  refine wpAnyT_take 99 11 (v := ?_) (by kernel_rfl) rfl (by kernel_rfl) (fun _ _ _ h => h) (Or.inl ⟨by rfl, fun W hW => ?_⟩) (by with_reducible assumption) ?_
  rotate_left
  focus ((try dsimp only at hW); go_simp; try with_reducible rfl)
  refine ⟨by kernel_rfl, ?_⟩
  simp only [List.drop_succ_cons, List.drop_zero]
  clear hS4 a0 a1 a2
  have hres := HTw.out.b.below HB4.out
  have HF := Lib.hid (ret3 (w0 := w) (b := false) (s := M) (d := ⟨false, R, M⟩) hres hres.noU HR3.out (HTw.out.below.trans (HB4.out.mono HTw.out.below.size)) HBn.out rfl)
  obtain ⟨y0, y1, y2, yf⟩ := hres.cells
  have HFin := Lib.hid (show ∀ e w', RetD ⟨false, R, M⟩ w e w' → RootD d k w e w' from fun e w' h => ⟨R, by rw [← HMt.out.1]; exact h, by rw [← HMt.out.1, ← HMt.out.2, ← HX.out]; exact HRR.out⟩)
  clear hres
  go_wp2_with fail
  obtain ⟨z0, z1, z2, _⟩ := HF.out.1.cells
  rw [← HQ.out]
  exact bodyPost_ret (v := .agg (dcs false (.slice A7 (nl R) c7) M)) (by simp [results, Tryz.results21, go_sem, z0, z1, z2]) rfl (HFin.out _ _ HF.out.2)
end Go.Proofs.YthodlgjfmddemaaGreatDoor.Rk
