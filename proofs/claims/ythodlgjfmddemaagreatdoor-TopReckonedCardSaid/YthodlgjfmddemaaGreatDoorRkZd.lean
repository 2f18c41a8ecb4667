/- Decimals in memory: quotient and rest; the root. -/
import Derived.Test.YthodlgjfmddemaaGreatDoorRkZc
namespace Go.Proofs.YthodlgjfmddemaaGreatDoor.Rk
open Go.RowKit

theorem plus_nl {d e : Dec} (hd : nl d.n ≤ 1000) (he : nl e.n ≤ 1000) (hds : d.scale ≤ 1000) (hes : e.scale ≤ 1000) : nl (d.plus e).n ≤ 2001 := by
  have h1 := cut_nl (d := d) (s := max d.scale e.scale) hd (by omega)
  have h2 := cut_nl (d := e) (s := max d.scale e.scale) he (by omega)
  unfold Dec.plus
  dsimp only
  generalize d.cut (max d.scale e.scale) = a at *
  generalize e.cut (max d.scale e.scale) = b at *
  split
  · exact nl_add h1 h2
  · split
    · exact Nat.le_trans (nl_mono (Nat.sub_le _ _)) (by omega)
    · exact Nat.le_trans (nl_mono (Nat.sub_le _ _)) (by omega)
theorem two_res {w : World} {r : Nat} (h1 : B3 w r (.bool false) (.slice none 0 0) (.int .i64 0)) (h2 : B3 w (r + 1) (.bool false) (.slice none 0 0) (.int .i64 0)) (a b c d e f : Value) :
    B3 (set3 (set3 w r a b c) (r + 1) d e f) r a b c ∧ B3 (set3 (set3 w r a b c) (r + 1) d e f) (r + 1) d e f ∧ ∀ v n, NL w v n → NL (set3 (set3 w r a b c) (r + 1) d e f) v n := by
  have hb2 : B3 (set3 w r a b c) (r + 1) (.bool false) (.slice none 0 0) (.int .i64 0) := (set3_heap w r a b c (r + 1) (by omega)).trans h2
  exact ⟨(set3_heap (set3 w r a b c) (r + 1) d e f r (by omega)).trans (h1.set3 a b c), hb2.set3 _ _ _, fun v n hn => (hn.set3 h1.noU).set3 hb2.noU⟩
def Nine (h : Nat) (q : Dec) (vq : Value) (g : Nat) (d e : Dec) (v1 v2 : Value) (W : World) : Prop := W.cell? ⟨h, 0, none⟩ = some (.bool q.below) ∧ W.cell? ⟨h, 1, none⟩ = some vq ∧ W.cell? ⟨h, 2, none⟩ = some (.int .i64 (q.scale : Int)) ∧ Six g d e v1 v2 W
def DivD (d e : Dec) (k : Nat) (w : World) (x : Ending) (w' : World) : Prop := ∃ vq vr, x = .returned (.tuple #[vq, vr]) ∧ DecV w' vq (d.quotient e k) ∧ DecV w' vr (d.rest e k) ∧ Below w.heap.size w w'
set_option maxRecDepth 100000 in
set_option maxHeartbeats 6400000 in
theorem divided_any (u v : Value) (d e : Dec) (k : Nat) (w : World) (hu : DecV w u d) (hv : DecV w v e) (hd : nl d.n ≤ 100) (he : nl e.n ≤ 100) (hds : d.scale ≤ 300) (hes : e.scale ≤ 300) (hk : k ≤ 100) (he0 : e.n ≠ 0) :
    Calls Tryz.prog 13 #[u, v, .int .i64 (k : Int)] w (DivD d e k w) := by
  obtain ⟨nu, rfl, hnu⟩ := hu
  obtain ⟨nv, rfl, hnv⟩ := hv
  obtain ⟨A, c, rfl, _, _⟩ := RL.form hnu
  obtain ⟨A2, c2, rfl, _, _⟩ := RL.form hnv
  obtain ⟨D, hD⟩ : ∃ D, D = d.rest e k := ⟨_, rfl⟩
  have hX0 := Bx.new w d e _ _ hnu hnv
  obtain ⟨w1, hw1⟩ : ∃ w1, w1 = (((w.alloc (.cells #[.bool d.below, .slice A (nl d.n) c, .int .i64 (d.scale : Int)] 48)).alloc (.cells #[.bool e.below, .slice A2 (nl e.n) c2, .int .i64 (e.scale : Int)] 48)).alloc (.cells #[.bool false, .slice none 0 0, .int .i64 0] 48)).alloc (.cells #[.bool false, .slice none 0 0, .int .i64 0] 48) := ⟨_, rfl⟩
  have hX := hX0.keep ((Below.refl _ _).alloc (Nat.le_refl _) (.cells #[.bool false, .slice none 0 0, .int .i64 0] 48))
  have hR2 : B3 w1 (w.heap.size + 1 + 1 + 1) (.bool false) (.slice none 0 0) (.int .i64 0) := by
    rw [hw1]
    have := B3.new (((w.alloc (.cells #[.bool d.below, .slice A (nl d.n) c, .int .i64 (d.scale : Int)] 48)).alloc (.cells #[.bool e.below, .slice A2 (nl e.n) c2, .int .i64 (e.scale : Int)] 48)).alloc (.cells #[.bool false, .slice none 0 0, .int .i64 0] 48)) (.bool false) (.slice none 0 0) (.int .i64 0)
    rw [show (((w.alloc (.cells #[.bool d.below, .slice A (nl d.n) c, .int .i64 (d.scale : Int)] 48)).alloc (.cells #[.bool e.below, .slice A2 (nl e.n) c2, .int .i64 (e.scale : Int)] 48)).alloc (.cells #[.bool false, .slice none 0 0, .int .i64 0] 48)).heap.size = w.heap.size + 1 + 1 + 1 by simp] at this
    exact this
  rw [← hw1] at hX
  obtain ⟨g, hg⟩ : ∃ g, g = w.heap.size := ⟨_, rfl⟩
  have HBn := Lib.hid (show w.heap.size ≤ g + 1 + 1 by omega)
  have HG := Lib.hid hg
  have HW1 := Lib.hid hw1
  have HX := Lib.hid hX
  have HD := Lib.hid hD
  have HR2 := Lib.hid hR2
  clear hX hX0 hR2 hw1 hg hnu hnv hD
  obtain ⟨s, hs⟩ : ∃ s, s = k + e.scale := ⟨_, rfl⟩
  have e1 : IntKind.i64.wrap ((k : Int) + (e.scale : Int)) = (s : Int) := by rw [hs]; exact i64_sum _ _ (by omega)
  obtain ⟨M, hM⟩ : ∃ M, M = max d.scale s := ⟨_, rfl⟩
  have e2 : max (d.scale : Int) (s : Int) = (M : Int) := by omega
  obtain ⟨QD, hQD⟩ : ∃ QD, QD = d.quotient e k := ⟨_, rfl⟩
  obtain ⟨PD, hPD⟩ : ∃ PD, PD = QD.product e := ⟨_, rfl⟩
  obtain ⟨ND, hND⟩ : ∃ ND, ND = PD.neg := ⟨_, rfl⟩
  obtain ⟨SD, hSD⟩ : ∃ SD, SD = d.plus ND := ⟨_, rfl⟩
  have hQn : nl QD.n ≤ 150 := by
    rw [hQD]
    show nl (d.n * 10 ^ (k + e.scale) / (e.n * 10 ^ d.scale)) ≤ 150
    refine Nat.le_trans (nl_div (nl_mul hd (nl_ten (k + e.scale)))) (by omega)
  have hQs : QD.scale = k := by rw [hQD]; rfl
  have hPn : nl PD.n ≤ 250 := by rw [hPD]; exact nl_mul hQn he
  have hPs : PD.scale ≤ 400 := by rw [hPD]; show QD.scale + e.scale ≤ 400; omega
  have hNn : nl ND.n ≤ 250 := by rw [hND]; exact hPn
  have hNs : ND.scale ≤ 400 := by rw [hND]; exact hPs
  have hSn : nl SD.n ≤ 2001 := by rw [hSD]; exact plus_nl (by omega) (by omega) (by omega) (by omega)
  have hSs : SD.scale ≤ 1000 := by rw [hSD, (plus_ival d ND).2]; omega
  have hcut : SD.cut M = D := by rw [HD.out, hSD, hND, hPD, hQD, hM, hs]; rfl
  have HCq := Lib.hid (show ∀ v1 v2 W, DecV W v1 d → DecV W v2 e → Calls Tryz.prog 27 #[v1, v2, .int .i64 (k : Int)] W (RetD QD W) from fun v1 v2 W h1 h2 => by rw [hQD]; exact dquotient_any v1 v2 d e k W h1 h2 (by omega) (by omega) (by omega) (by omega) (by omega) he0)
  have HCp := Lib.hid (show ∀ v1 v2 W, DecV W v1 QD → DecV W v2 e → Calls Tryz.prog 28 #[v1, v2] W (RetD PD W) from fun v1 v2 W h1 h2 => by rw [hPD]; exact dproduct_any v1 v2 QD e W h1 h2 (by omega) (by omega) (by omega) (by omega))
  have HCn := Lib.hid (show ∀ v W, DecV W v PD → Calls Tryz.prog 29 #[v] W (RetD ND W) from fun v W h => by rw [hND]; exact negated_any v PD W h)
  have HCs := Lib.hid (show ∀ v1 v2 W, DecV W v1 d → DecV W v2 ND → Calls Tryz.prog 19 #[v1, v2] W (RetD SD W) from fun v1 v2 W h1 h2 => by rw [hSD]; exact dplus_any v1 v2 d ND W h1 h2 (by omega) (by omega) (by omega) (by omega))
  have HCc := Lib.hid (show ∀ v W, DecV W v SD → Calls Tryz.prog 30 #[v, .int .i64 (M : Int)] W (RetD D W) from fun v W h => by rw [← hcut]; exact cut_any v SD M W h (by omega) (by omega) (by omega))
  have HQD := Lib.hid hQD
  clear hs hM hPD hND hSD hQn hQs hPn hPs hNn hNs hSn hSs hcut hQD
  have HX1 := HX
  go_enter Tryz.func13, Tryz.ntmps13
  obtain ⟨a0, a1, a2, _⟩ := HX.out.two.a.cells
  obtain ⟨b0, b1, b2, _⟩ := HX.out.two.b.cells
  go_wp2_with fail
  rw [← HW1.out, ← HG.out]
  refine (HCq.out _ _ w1 ⟨_, rfl, HX.out.n1⟩ ⟨_, rfl, HX.out.n2⟩).mono ?_
  rintro x w2 ⟨vq, rfl, ⟨nq, rfl, hnq⟩, hb2⟩
  obtain ⟨Aq, cq, rfl, _, _⟩ := RL.form hnq
  obtain ⟨w3, hw3⟩ : ∃ w3, w3 = w2.alloc (.cells #[.bool QD.below, .slice Aq (nl QD.n) cq, .int .i64 (QD.scale : Int)] 48) := ⟨_, rfl⟩
  obtain ⟨h, hh⟩ : ∃ h, h = w2.heap.size := ⟨_, rfl⟩
  have hb3 : Below w2.heap.size w2 w3 := by rw [hw3]; exact (Below.refl _ _).alloc (Nat.le_refl _) _
  have hq3 : B3 w3 h (.bool QD.below) (.slice Aq (nl QD.n) cq) (.int .i64 (QD.scale : Int)) := by rw [hw3, hh]; exact B3.new w2 _ _ _
  have HX3 := Lib.hid ((HX.out.keep hb2).keep hb3)
  have HR3 := Lib.hid ((HR2.out.below hb2).below hb3)
  have HNq := Lib.hid (hnq.keep hb3)
  have HQ3 := Lib.hid hq3
  have HW3 := Lib.hid hw3
  have HH := Lib.hid hh
  clear hnq hb2 hb3 hq3 hw3 hh a0 a1 a2 b0 b1 b2
  go_wp2_with fail
  rw [← HW3.out, ← HH.out]
  rw [← HG.out] at HX3 HR3
  have HX4 := Lib.hid HX3.out.drew
  have HQ4 := Lib.hid (show B3 w3.drew h (.bool QD.below) (.slice Aq (nl QD.n) cq) (.int .i64 (QD.scale : Int)) from HQ3.out)
  have hS : Nine h QD (.slice Aq (nl QD.n) cq) g d e (.slice A (nl d.n) c) (.slice A2 (nl e.n) c2) w3.drew := ⟨HQ4.out.cells.1, HQ4.out.cells.2.1, HQ4.out.cells.2.2.1, HX4.out.six⟩
  unfold Nine Six at hS
  refine wp_region_tail 15 (fun W => W.cell? ⟨h, 0, none⟩ = some (.bool QD.below) ∧ W.cell? ⟨h, 1, none⟩ = some (.slice Aq (nl QD.n) cq) ∧ W.cell? ⟨h, 2, none⟩ = some (.int .i64 (QD.scale : Int)) ∧ W.cell? ⟨g, 0, none⟩ = some (.bool d.below) ∧ W.cell? ⟨g, 1, none⟩ = some (.slice A (nl d.n) c) ∧ W.cell? ⟨g, 2, none⟩ = some (.int .i64 (d.scale : Int)) ∧ W.cell? ⟨g + 1, 0, none⟩ = some (.bool e.below) ∧ W.cell? ⟨g + 1, 1, none⟩ = some (.slice A2 (nl e.n) c2) ∧ W.cell? ⟨g + 1, 2, none⟩ = some (.int .i64 (e.scale : Int))) (by kernel_rfl) (by decide) ?_
  refine wpAnyT_take 99 0 (v := ?_) (by kernel_rfl) rfl (by kernel_rfl) (fun _ _ _ h => h) (Or.inl ⟨by rfl, fun W hW => ?_⟩) (by with_reducible assumption) ?_
  rotate_left
  focus ((try dsimp only at hW); go_simp; try with_reducible rfl)
  refine wpAnyT_take 99 1 (v := ?_) (by kernel_rfl) rfl (by kernel_rfl) (fun _ _ _ h => h) (Or.inl ⟨by rfl, fun W hW => ?_⟩) (by with_reducible assumption) ?_
  rotate_left
  focus ((try dsimp only at hW); go_simp; try with_reducible rfl)
  refine wpAnyT_take 99 2 (v := ?_) (by kernel_rfl) rfl (by kernel_rfl) (fun _ _ _ h => h) (Or.inl ⟨by rfl, fun W hW => ?_⟩) (by with_reducible assumption) ?_
  rotate_left
  focus ((try dsimp only at hW); go_simp; try with_reducible rfl)
  refine wpAnyT_take 99 3 (v := ?_) (by kernel_rfl) rfl (by kernel_rfl) (fun _ _ _ h => h) (Or.inl ⟨by rfl, fun W hW => ?_⟩) (by with_reducible assumption) ?_
  rotate_left
  focus ((try dsimp only at hW); go_simp; try with_reducible rfl)
  refine wpAnyT_take 99 7 (v := ?_) (by kernel_rfl) rfl (by kernel_rfl) (fun _ _ _ h => h) (Or.inl ⟨by rfl, fun W hW => ?_⟩) (by with_reducible assumption) ?_
  rotate_left
  focus ((try dsimp only at hW); go_simp; try with_reducible rfl)
  refine wpAnyT_take 99 8 (v := ?_) (by kernel_rfl) rfl (by kernel_rfl) (fun _ _ _ h => h) (Or.inl ⟨by rfl, fun W hW => ?_⟩) (by with_reducible assumption) ?_
  rotate_left
  focus ((try dsimp only at hW); go_simp; try with_reducible rfl)
  refine wpAnyT_take 99 9 (v := ?_) (by kernel_rfl) rfl (by kernel_rfl) (fun _ _ _ h => h) (Or.inl ⟨by rfl, fun W hW => ?_⟩) (by with_reducible assumption) ?_
  rotate_left
  focus ((try dsimp only at hW); go_simp; try with_reducible rfl)
  refine wpAnyT_take 99 10 (v := ?_) (by kernel_rfl) rfl (by kernel_rfl) (fun _ _ _ h => h) (Or.inl ⟨by rfl, fun W hW => ?_⟩) (by with_reducible assumption) ?_
  rotate_left
  focus ((try dsimp only at hW); go_simp; try with_reducible rfl)
  refine wpAnyT_take 99 11 (v := ?_) (by kernel_rfl) rfl (by kernel_rfl) (fun _ _ _ h => h) (Or.inl ⟨by rfl, fun W hW => ?_⟩) (by with_reducible assumption) ?_
  rotate_left
  focus ((try dsimp only at hW); go_simp; try with_reducible rfl)
  refine wpAnyT_take 99 12 (v := ?_) (by kernel_rfl) rfl (by kernel_rfl) (fun _ _ _ h => h) (Or.inl ⟨by rfl, fun W hW => ?_⟩) (by with_reducible assumption) ?_
  rotate_left
  focus ((try dsimp only at hW); go_simp; try with_reducible rfl)
  refine wpAnyT_take 99 13 (v := ?_) (by kernel_rfl) rfl (by kernel_rfl) (fun _ _ _ h => h) (Or.inl ⟨by rfl, fun W hW => ?_⟩) (by with_reducible assumption) ?_
  rotate_left
  focus ((try dsimp only at hW); go_simp; try with_reducible rfl)
  refine wpAnyT_one 4 (by kernel_rfl) (by decide) ?_
  refine wpOp_at rfl rfl (fun K hK => ?_)
  simp only [Act.put, List.getElem_toArray, List.getElem_cons_zero, List.getElem_cons_succ, List.setIfInBounds_toArray, List.set_cons_zero, List.set_cons_succ]
  go_simp
  refine (HCp.out _ _ _ ⟨_, rfl, HNq.out.drew⟩ ⟨_, rfl, HX4.out.n2⟩).mono ?_
  rintro x w4 ⟨vp, rfl, ⟨np, rfl, hp⟩, hbw4⟩
  obtain ⟨Ap, cp, rfl, _, _⟩ := RL.form hp
  have HX5 := Lib.hid (HX4.out.keep hbw4)
  have HQ5 := Lib.hid (HQ4.out.below hbw4)
  have Hp := Lib.hid hp
  have HNq5 := Lib.hid (HNq.out.drew.keep hbw4)
  have HR5 := Lib.hid ((HR3.out.below (below_drewN (Below.refl _ w3) 1)).below hbw4)
  have hS5 : Nine h QD (.slice Aq (nl QD.n) cq) g d e (.slice A (nl d.n) c) (.slice A2 (nl e.n) c2) w4 := ⟨HQ5.out.cells.1, HQ5.out.cells.2.1, HQ5.out.cells.2.2.1, HX5.out.six⟩
  unfold Nine Six at hS5
  clear hp hbw4 hS
  refine hK.out _ _ ⟨hS5, ?_⟩
  clear hK K
  refine wpAnyT_one 5 (by kernel_rfl) (by decide) ?_
  refine wpOp_at rfl rfl (fun K hK => ?_)
  go_simp
  refine (HCn.out _ _ ⟨_, rfl, Hp.out⟩).mono ?_
  rintro x w5 ⟨vn, rfl, ⟨nn, rfl, hn⟩, hbw5⟩
  obtain ⟨An, cn, rfl, _, _⟩ := RL.form hn
  have HX6 := Lib.hid (HX5.out.keep hbw5)
  have HQ6 := Lib.hid (HQ5.out.below hbw5)
  have Hn := Lib.hid hn
  have HNq6 := Lib.hid (HNq5.out.keep hbw5)
  have HR6 := Lib.hid (HR5.out.below hbw5)
  have hS6 : Nine h QD (.slice Aq (nl QD.n) cq) g d e (.slice A (nl d.n) c) (.slice A2 (nl e.n) c2) w5 := ⟨HQ6.out.cells.1, HQ6.out.cells.2.1, HQ6.out.cells.2.2.1, HX6.out.six⟩
  unfold Nine Six at hS6
  clear hn hbw5 hS5
  refine hK.out _ _ ⟨hS6, ?_⟩
  clear hK K
  refine wpAnyT_one 6 (by kernel_rfl) (by decide) ?_
  refine wpOp_at rfl rfl (fun K hK => ?_)
  go_simp
  refine (HCs.out _ _ _ ⟨_, rfl, HX6.out.n1⟩ ⟨_, rfl, Hn.out⟩).mono ?_
  rintro x w6 ⟨vs, rfl, ⟨ns, rfl, hs⟩, hbw6⟩
  obtain ⟨As, cs, rfl, _, _⟩ := RL.form hs
  have HX7 := Lib.hid (HX6.out.keep hbw6)
  have HQ7 := Lib.hid (HQ6.out.below hbw6)
  have Hs := Lib.hid hs
  have HNq7 := Lib.hid (HNq6.out.keep hbw6)
  have HR7 := Lib.hid (HR6.out.below hbw6)
  have hS7 : Nine h QD (.slice Aq (nl QD.n) cq) g d e (.slice A (nl d.n) c) (.slice A2 (nl e.n) c2) w6 := ⟨HQ7.out.cells.1, HQ7.out.cells.2.1, HQ7.out.cells.2.2.1, HX7.out.six⟩
  unfold Nine Six at hS7
  clear hs hbw6 hS6
  refine hK.out _ _ ⟨hS7, ?_⟩
  clear hK K
  refine wpAnyT_one 14 (by kernel_rfl) (by decide) ?_
  refine wpOp_at rfl rfl (fun K hK => ?_)
  go_simp
  refine (HCc.out _ _ ⟨_, rfl, Hs.out⟩).mono ?_
  rintro x w7 ⟨vr, rfl, ⟨nr, rfl, hr⟩, hbw7⟩
  obtain ⟨Ar, cr, rfl, _, _⟩ := RL.form hr
  have HX8 := Lib.hid (HX7.out.keep hbw7)
  have HQ8 := Lib.hid (HQ7.out.below hbw7)
  have Hr := Lib.hid hr
  have HNq8 := Lib.hid (HNq7.out.keep hbw7)
  have HR8 := Lib.hid (HR7.out.below hbw7)
  have hS8 : Nine h QD (.slice Aq (nl QD.n) cq) g d e (.slice A (nl d.n) c) (.slice A2 (nl e.n) c2) w7 := ⟨HQ8.out.cells.1, HQ8.out.cells.2.1, HQ8.out.cells.2.2.1, HX8.out.six⟩
  unfold Nine Six at hS8
  clear hr hbw7 hS7
  refine hK.out _ _ ⟨hS8, ?_⟩
  clear hK K
  refine ⟨by kernel_rfl, ?_⟩
  simp only [List.drop_succ_cons, List.drop_zero]
  clear hS8
  obtain ⟨y0, y1, y2, yf⟩ := HX8.out.res.cells
  obtain ⟨x0, x1, x2, xf⟩ := HR8.out.cells
  go_wp2_with fail
  obtain ⟨c1, c2', hn⟩ := two_res HX8.out.res HR8.out (.bool QD.below) (.slice Aq (nl QD.n) cq) (.int .i64 (QD.scale : Int)) (.bool D.below) (.slice Ar (nl D.n) cr) (.int .i64 (D.scale : Int))
  obtain ⟨z0, z1, z2, _⟩ := c1.cells
  obtain ⟨u0, u1, u2, _⟩ := c2'.cells
  exact bodyPost_ret (v := .tuple #[.agg (dcs QD.below (.slice Aq (nl QD.n) cq) QD.scale), .agg (dcs D.below (.slice Ar (nl D.n) cr) D.scale)]) (by simp [results, Tryz.results13, go_sem, z0, z1, z2, u0, u1, u2]) rfl ⟨_, _, rfl, ⟨_, by rw [← HQD.out], by rw [← HQD.out]; exact hn _ _ HNq8.out⟩, ⟨_, by rw [← HD.out], by rw [← HD.out]; exact hn _ _ Hr.out⟩, below_set3 (below_set3 HX8.out.two.below HBn.out _ _ _) (by have := HBn.out; omega) _ _ _⟩
end Go.Proofs.YthodlgjfmddemaaGreatDoor.Rk
