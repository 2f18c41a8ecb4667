/- Decimals in memory: cut to a scale. -/
import Derived.Test.YthodlgjfmddemaaGreatDoorRkV
namespace Go.Proofs.YthodlgjfmddemaaGreatDoor.Rk
open Go.RowKit

set_option maxRecDepth 100000 in
set_option maxHeartbeats 3200000 in
theorem cut_any (v : Value) (d : Dec) (s : Nat) (w : World) (hv : DecV w v d) (hn : nl d.n ≤ 10000) (hs : s ≤ 10000) (hds : d.scale ≤ 10000) :
    Calls Tryz.prog 30 #[v, .int .i64 (s : Int)] w (RetD (d.cut s) w) := by
  obtain ⟨nv, rfl, hnv⟩ := hv
  obtain ⟨b, n, s0⟩ := d
  obtain ⟨A, c, rfl, _, _⟩ := RL.form hnv
  dsimp only at hnv hn hds ⊢
  obtain ⟨m, hm⟩ : ∃ m, m = nl n := ⟨_, rfl⟩
  rw [← hm] at hnv hn ⊢
  have HM := Lib.hid hm
  obtain ⟨w1, hw1⟩ : ∃ w1, w1 = (w.alloc (.cells #[.bool b, .slice A m c, .int .i64 (s0 : Int)] 48)).alloc (.cells #[.bool false, .slice none 0 0, .int .i64 0] 48) := ⟨_, rfl⟩
  have hb1 : Below w.heap.size w w1 := by rw [hw1]; exact ((Below.refl _ _).alloc (Nat.le_refl _) _).alloc (by simp) _
  have hg1 : B3 w1 w.heap.size (.bool b) (.slice A m c) (.int .i64 (s0 : Int)) := by rw [hw1]; exact (B3.new w _ _ _).alloc _
  have hg2 : B3 w1 (w.heap.size + 1) (.bool false) (.slice none 0 0) (.int .i64 0) := by
    rw [hw1]
    have := B3.new (w.alloc (.cells #[.bool b, .slice A m c, .int .i64 (s0 : Int)] 48)) (.bool false) (.slice none 0 0) (.int .i64 0)
    rw [show (w.alloc (.cells #[.bool b, .slice A m c, .int .i64 (s0 : Int)] 48)).heap.size = w.heap.size + 1 by simp] at this
    exact this
  have HN := Lib.hid (NL.keep hnv hb1)
  obtain ⟨D, hD⟩ : ∃ D, D = Dec.cut ⟨b, n, s0⟩ s := ⟨_, rfl⟩
  rw [← hD]
  have HD := Lib.hid hD
  have HB1 := Lib.hid hb1
  have HG1 := Lib.hid hg1
  have HG2 := Lib.hid hg2
  obtain ⟨g, hg⟩ : ∃ g, g = w.heap.size := ⟨_, rfl⟩
  obtain ⟨k0, k1, k2, kf⟩ := hg1.cells
  have HG := Lib.hid hg
  have HW1 := Lib.hid hw1
  clear hm hnv hb1 hg1 hg2 hD hg
  by_cases hle : s0 ≤ s
  · have hlez : (s : Int) ≥ (s0 : Int) := by omega
    obtain ⟨k, hk⟩ : ∃ k, k = s - s0 := ⟨_, rfl⟩
    have e1 : IntKind.i64.wrap ((s : Int) - (s0 : Int)) = (k : Int) := by
      rw [show (s : Int) - (s0 : Int) = (k : Int) by omega]
      exact IntWalk.i64_in _ (by omega)
    have hDe : D = Dec.clean ⟨b, n * 10 ^ k, s⟩ := by
      rw [HD.out]
      unfold Dec.cut Dec.clean
      rw [if_pos hle, ← hk]
    have hkb : k ≤ 10000 := by omega
    have HDe := Lib.hid hDe
    clear hle hk hDe hw1
    go_enter Tryz.func30, Tryz.ntmps30
    go_upto_region 2 with fail
    rw [← HW1.out, ← HG.out]
    rw [← HG.out] at k0 k1 k2 kf HG1 HG2
    have hgl : g < w1.heap.size := HG1.out.lt
    have hS : w1.drew.cell? ⟨g, 1, none⟩ = some (.slice A m c) ∧ w1.drew.cell? ⟨g, 2, none⟩ = some (.int .i64 (s0 : Int)) := ⟨k1, k2⟩
    refine wp_region_tail 9 (fun W => W.cell? ⟨g, 1, none⟩ = some (.slice A m c) ∧ W.cell? ⟨g, 2, none⟩ = some (.int .i64 (s0 : Int))) (by kernel_rfl) (by decide) ?_
    refine wpAnyT_take 99 0 (v := ?_) (by kernel_rfl) rfl (by kernel_rfl) (fun _ _ _ h => h) (Or.inl ⟨by rfl, fun W hW => ?_⟩) (by with_reducible assumption) ?_
    rotate_left
    focus ((try dsimp only at hW); go_simp; try with_reducible rfl)
    refine wpAnyT_take 99 1 (v := ?_) (by kernel_rfl) rfl (by kernel_rfl) (fun _ _ _ h => h) (Or.inl ⟨by rfl, fun W hW => ?_⟩) (by with_reducible assumption) ?_
    rotate_left
    focus ((try dsimp only at hW); go_simp; try with_reducible rfl)
    refine wpAnyT_take 99 2 (v := ?_) (by kernel_rfl) rfl (by kernel_rfl) (fun _ _ _ h => h) (Or.inl ⟨by rfl, fun W hW => ?_⟩) (by with_reducible assumption) ?_
    rotate_left
    focus ((try dsimp only at hW); go_simp; try with_reducible rfl)
    refine wpAnyT_take 99 3 (v := ?_) (by kernel_rfl) rfl (by kernel_rfl) (fun _ _ _ h => h) (Or.inl ⟨by rfl, fun W hW => ?_⟩) (by with_reducible assumption) ?_
    rotate_left
    focus ((try dsimp only at hW); go_simp; try with_reducible rfl)
    refine wpAnyT_take 99 4 (v := ?_) (by kernel_rfl) rfl (by kernel_rfl) (fun _ _ _ h => h) (Or.inl ⟨by rfl, fun W hW => ?_⟩) (by with_reducible assumption) ?_
    rotate_left
    focus ((try dsimp only at hW); go_simp; try with_reducible rfl)
    refine wpAnyT_take 99 5 (v := ?_) (by kernel_rfl) rfl (by kernel_rfl) (fun _ _ _ h => h) (Or.inl ⟨by rfl, fun W hW => ?_⟩) (by with_reducible assumption) ?_
    rotate_left
    focus ((try dsimp only at hW); go_simp; try with_reducible rfl)
    refine wpAnyT_one 6 (by kernel_rfl) (by decide) ?_
    refine wpOp_at rfl rfl (fun K hK => ?_)
    simp only [Act.put, List.getElem_toArray, List.getElem_cons_zero, List.getElem_cons_succ, List.setIfInBounds_toArray, List.set_cons_zero, List.set_cons_succ]
    go_simp
    refine (ten_any k _ (by omega)).mono ?_
    rintro e w2 ⟨r, rfl, hr, hb2⟩
    have hS2 := And.intro ((hb2.cell (p := ⟨g, 1, none⟩) hgl).trans hS.1) ((hb2.cell (p := ⟨g, 2, none⟩) hgl).trans hS.2)
    have HR := Lib.hid hr
    have HB2 := Lib.hid (show Below w1.heap.size w1 w2 from (below_drewN (Below.refl _ w1) 1).trans hb2)
    clear hr hb2 hS
    refine hK.out _ _ ⟨hS2, ?_⟩
    clear hK K
    refine wpAnyT_one 7 (by kernel_rfl) (by decide) ?_
    refine wpOp_at rfl rfl (fun K hK => ?_)
    go_simp
    have HNK := Lib.hid (nl_ten k)
    refine (times_any _ _ n (10 ^ k) _ (HN.out.keep HB2.out) HR.out (by rw [← HM.out]; omega) (by have := HNK.out; omega)).mono ?_
    rintro e w3 ⟨tv, rfl, ht, hb3⟩
    have hgl2 : g < w2.heap.size := Nat.lt_of_lt_of_le hgl HB2.out.size
    have hS3 := And.intro ((hb3.cell (p := ⟨g, 1, none⟩) hgl2).trans hS2.1) ((hb3.cell (p := ⟨g, 2, none⟩) hgl2).trans hS2.2)
    have HB3 := Lib.hid (HB2.out.trans (hb3.mono HB2.out.size))
    obtain ⟨At, ct, rfl, _, _⟩ := RL.form ht
    have HT := Lib.hid ht
    clear ht hb3 hS2
    refine hK.out _ _ ⟨hS3, ?_⟩
    clear hK K
    refine wpAnyT_take 99 8 (v := ?_) (by kernel_rfl) rfl (by kernel_rfl) (fun _ _ _ h => h) (Or.inl ⟨by rfl, fun W hW => ?_⟩) (by with_reducible assumption) ?_
    rotate_left
    focus ((try dsimp only at hW); go_simp; try with_reducible rfl)
    clear hS3
    refine ⟨by kernel_rfl, ?_⟩
    simp only [List.drop_succ_cons, List.drop_zero]
    have hg3 := HG1.out.below HB3.out
    have hr3 := HG2.out.below HB3.out
    obtain ⟨q0, q1, q2, qf⟩ := hg3.cells
    have HG3 := Lib.hid hg3
    have HR3 := Lib.hid hr3
    clear k0 k1 k2 kf hg3 hr3
    have HT4 := Lib.hid (HT.out.of_blocks HG3.out.noU (set2_heap w3 g 1 2 (.slice At (nl (n * 10 ^ k)) ct) (.int .i64 (s : Int))) (set2_size w3 g 1 2 _ _))
    have HR4 := Lib.hid ((HR3.out.far (k := g) (i := 1) (u := .slice At (nl (n * 10 ^ k)) ct) (by omega)).far (k := g) (i := 2) (u := .int .i64 (s : Int)) (by omega))
    have HB4 := Lib.hid (show Below w.heap.size w ((w3.setCell ⟨g, 1, none⟩ (.slice At (nl (n * 10 ^ k)) ct)).setCell ⟨g, 2, none⟩ (.int .i64 (s : Int))) from ((HB1.out.trans (HB3.out.mono HB1.out.size)).setCell (p := ⟨g, 1, none⟩) (by rw [HG.out]; exact Nat.le_refl _) _).setCell (p := ⟨g, 2, none⟩) (by rw [HG.out]; exact Nat.le_refl _) _)
    have HBn := Lib.hid (show w.heap.size ≤ g + 1 by rw [HG.out]; omega)
    go_wp2_with fail
    generalize (w3.setCell ⟨g, 1, none⟩ (.slice At (nl (n * 10 ^ k)) ct)).setCell ⟨g, 2, none⟩ (.int .i64 (s : Int)) = w4 at *
    refine (clean_any _ ⟨b, n * 10 ^ k, s⟩ w4 ⟨_, rfl, HT4.out⟩).mono ?_
    rw [← HDe.out]
    rintro e w5 ⟨v5, rfl, ⟨nv5, rfl, hn5⟩, hb5⟩
    obtain ⟨A5, c5, rfl, _, _⟩ := RL.form hn5
    have hr5 := HR4.out.below hb5
    have HR5 := Lib.hid (ret3 (w0 := w) (d := D) hr5 hr5.noU hn5 (HB4.out.trans (hb5.mono HB4.out.size)) HBn.out rfl)
    obtain ⟨y0, y1, y2, yf⟩ := hr5.cells
    clear hn5 hb5 hr5
    go_wp2_with fail
    obtain ⟨z0, z1, z2, _⟩ := HR5.out.1.cells
    exact bodyPost_ret (v := .agg (dcs D.below (.slice A5 (nl D.n) c5) D.scale)) (by simp [results, Tryz.results30, go_sem, z0, z1, z2]) rfl HR5.out.2
  · have hlez : ¬ (s : Int) ≥ (s0 : Int) := by omega
    obtain ⟨k, hk⟩ : ∃ k, k = s0 - s := ⟨_, rfl⟩
    have e1 : IntKind.i64.wrap ((s0 : Int) - (s : Int)) = (k : Int) := by
      rw [show (s0 : Int) - (s : Int) = (k : Int) by omega]
      exact IntWalk.i64_in _ (by omega)
    have hDe : D = Dec.clean ⟨b, n / 10 ^ k, s⟩ := by
      rw [HD.out]
      unfold Dec.cut Dec.clean
      rw [if_neg hle, ← hk]
    have hkb : k ≤ 10000 := by omega
    have HDe := Lib.hid hDe
    clear hle hk hDe hw1
    go_enter Tryz.func30, Tryz.ntmps30
    go_upto_region 2 with fail
    rw [← HW1.out, ← HG.out]
    rw [← HG.out] at k0 k1 k2 kf HG1 HG2
    have hgl : g < w1.heap.size := HG1.out.lt
    have hS : w1.drew.cell? ⟨g, 1, none⟩ = some (.slice A m c) ∧ w1.drew.cell? ⟨g, 2, none⟩ = some (.int .i64 (s0 : Int)) := ⟨k1, k2⟩
    go_region_with (first | (go_at_call 39; refine (ten_any k _ (by omega)).mono ?_; rintro e w2 ⟨r, rfl, hr, hb2⟩; have hx1 := (hb2.cell (p := ⟨g, 1, none⟩) hgl).trans hS.1; have hx2 := (hb2.cell (p := ⟨g, 2, none⟩) hgl).trans hS.2) | (go_at_call 51; refine (divide_any _ _ n (10 ^ k) _ (HN.out.keep ((below_drewN (Below.refl _ w1) 1).trans hb2)) hr (by rw [← HM.out]; omega) (by have := nl_ten k; omega) (Nat.pow_pos (by decide))).mono ?_; rintro e w3 ⟨tv, rv, rfl, ht, _, hb3⟩; obtain ⟨At, ct, rfl, _, _⟩ := RL.form ht; have hb31 : Below w1.heap.size w1 w3 := ((below_drewN (Below.refl _ w1) 1).trans hb2).trans (hb3.mono (Below.size hb2)); obtain ⟨q0, q1, q2, qf⟩ := (HG1.out.below hb31).cells))
    all_goals
      have HB3 := Lib.hid hb31
      have HT := Lib.hid ht
      have HG3 := Lib.hid (HG1.out.below hb31)
      have hr3 := HG2.out.below hb31
      have HR3 := Lib.hid hr3
      clear k0 k1 k2 kf ht hb3 hb31 hb2 hr hr3 hx1 hx2 hS
      go_wp2_with fail
      have HT4 := Lib.hid (HT.out.of_blocks HG3.out.noU (set2_heap w3 g 1 2 (.slice At (nl (n / 10 ^ k)) ct) (.int .i64 (s : Int))) (set2_size w3 g 1 2 _ _))
      have HR4 := Lib.hid ((HR3.out.far (k := g) (i := 1) (u := .slice At (nl (n / 10 ^ k)) ct) (by omega)).far (k := g) (i := 2) (u := .int .i64 (s : Int)) (by omega))
      have HB4 := Lib.hid (show Below w.heap.size w ((w3.setCell ⟨g, 1, none⟩ (.slice At (nl (n / 10 ^ k)) ct)).setCell ⟨g, 2, none⟩ (.int .i64 (s : Int))) from ((HB1.out.trans (HB3.out.mono HB1.out.size)).setCell (p := ⟨g, 1, none⟩) (by rw [HG.out]; exact Nat.le_refl _) _).setCell (p := ⟨g, 2, none⟩) (by rw [HG.out]; exact Nat.le_refl _) _)
      have HBn := Lib.hid (show w.heap.size ≤ g + 1 by rw [HG.out]; omega)
      generalize (w3.setCell ⟨g, 1, none⟩ (.slice At (nl (n / 10 ^ k)) ct)).setCell ⟨g, 2, none⟩ (.int .i64 (s : Int)) = w4 at *
      refine (clean_any _ ⟨b, n / 10 ^ k, s⟩ w4 ⟨_, rfl, HT4.out⟩).mono ?_
      rw [← HDe.out]
      rintro e w5 ⟨v5, rfl, ⟨nv5, rfl, hn5⟩, hb5⟩
      obtain ⟨A5, c5, rfl, _, _⟩ := RL.form hn5
      have hr5 := HR4.out.below hb5
      have HR5 := Lib.hid (ret3 (w0 := w) (d := D) hr5 hr5.noU hn5 (HB4.out.trans (hb5.mono HB4.out.size)) HBn.out rfl)
      obtain ⟨y0, y1, y2, yf⟩ := hr5.cells
      clear hn5 hb5 hr5
      go_wp2_with fail
      obtain ⟨z0, z1, z2, _⟩ := HR5.out.1.cells
      exact bodyPost_ret (v := .agg (dcs D.below (.slice A5 (nl D.n) c5) D.scale)) (by simp [results, Tryz.results30, go_sem, z0, z1, z2]) rfl HR5.out.2
end Go.Proofs.YthodlgjfmddemaaGreatDoor.Rk
