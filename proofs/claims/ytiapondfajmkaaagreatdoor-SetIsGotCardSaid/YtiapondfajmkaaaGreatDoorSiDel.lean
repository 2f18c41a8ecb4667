/- SetIsGot: slices.Delete of one variable, with what is left. -/
import Derived.Test.YtiapondfajmkaaaGreatDoorSvT
namespace Go.Proofs.YtiapondfajmkaaaGreatDoor
open Go.RowKit

theorem prV_cut : ∀ (P : List VE) (i : Nat), (prV P).take (i * 6) = prV (P.take i) ∧ (prV P).drop (i * 6) = prV (P.drop i)
  | [], i => by simp [prV]
  | b :: r, 0 => by simp [prV]
  | b :: r, i + 1 => by
    obtain ⟨i1, i2⟩ := prV_cut r i
    have e : prV (b :: r) = cellsV b ++ prV r := rfl
    have hl : (cellsV b).length = 6 := rfl
    rw [e, show (i + 1) * 6 = (cellsV b).length + i * 6 by rw [hl]; omega, List.take_length_add_append, List.drop_length_add_append, i1, i2]
    exact ⟨rfl, rfl⟩
theorem take_setL : ∀ (vs : List Value) (xs : List Value) (o : Nat), (setL xs o vs).take o = xs.take o
  | [], xs, o => by rw [setL]
  | v :: r, xs, o => by
    have h := take_setL r (xs.set o v) (o + 1)
    have h2 := congrArg (List.take o) h
    rw [List.take_take, List.take_take, Nat.min_eq_left (Nat.le_succ o)] at h2
    rw [setL, h2, List.take_set_of_le (Nat.le_refl o)]
def DelQ (B g n c i : Nat) (P : List VE) (w : World) (e : Ending) (w' : World) : Prop := DelP g n c w e w' ∧ w'.ownsRow B 32 6 (.slice (some ⟨g, 0, none⟩) (n - 1) c) (n - 1) (prV (P.take i ++ P.drop (i + 1)))
set_option maxRecDepth 100000 in
set_option maxHeartbeats 3200000 in
theorem delete_own (B g n c i : Nat) (P : List VE) (w : World) (hown : w.ownsRow B 32 6 (.slice (some ⟨g, 0, none⟩) n c) n (prV P)) (hnP : n = P.length) (hn : n ≤ 2000) (hi : i < n) (hci : ¬ (c = i + 1)) :
    Calls Tryz.prog 17 #[.slice (some ⟨g, 0, none⟩) n c, .int .i64 (i : Int), .int .i64 ((i : Int) + 1)] w (DelQ B g n c i P w) := by
  obtain ⟨i0, hi0, hz0, hzs, hzb⟩ := info_parts varInfo
  obtain ⟨hnc, hc63⟩ : n ≤ c ∧ c ≤ 9223372036854775807 := by
    rcases hown.2 with ⟨e, _⟩ | ⟨g', c', cur, e, _, hg, h1, hm, hs, _⟩
    · cases e
    · injection e with _ _ e3
      unfold maxLen at hm
      omega
  obtain ⟨cs, hcs⟩ : ∃ cs, cs = prV P := ⟨_, rfl⟩
  rw [← hcs] at hown
  have hcl : cs.length = n * 6 := hown.1
  have h1c : ∀ v ∈ cs, v.oneCell' = true := by rw [hcs]; exact prV_one P
  have hcut := own_keep (own_cut hown i (by omega)) (Below.refl _ w).drew
  obtain ⟨w2, hr2, ho2, hg2⟩ := run_append_fits (P := Tryz.prog) w.drew B 24 24 32 i0 6 Tryz.underlying24 hi0 hzs g i c (cs.take (i * 6)) hcut ⟨g, (i + 1) * 6, none⟩ (n - (i + 1)) (c - (i + 1)) (cs.drop ((i + 1) * 6)) (by rw [List.length_drop, hcl]; omega)
    (fun j u hu => by
      have hj := (List.getElem?_eq_some_iff.1 hu).1
      rw [List.length_drop, hcl] at hj
      rw [WideShapes.add_plain]
      show w.cell? _ = some u
      rw [hown.cellAt _ (by omega)]
      rwa [List.getElem?_drop] at hu) (fun v hv => h1c v (List.mem_of_mem_drop hv)) (by omega)
  have hn1 : i + (n - (i + 1)) = n - 1 := by omega
  rw [hn1] at hr2 ho2
  obtain ⟨ys, hyl, ho3⟩ := own_ext ho2 1 (by omega)
  rw [show n - 1 + 1 = n by omega] at ho3
  have hlen3 : (cs.take (i * 6) ++ cs.drop ((i + 1) * 6) ++ ys).length = n * 6 := ho3.1
  have hcr : ∀ (W : World), (∀ y, W.cell? y = w2.cell? y) → (∀ y, W.frozen? y = w2.frozen? y) → ∀ ty, (Builtin.clear_ #[24] ty #[.slice (some ⟨g, (n - 1) * 6, none⟩) 1 (c - (n - 1))]).run Tryz.prog W = .ok (.tuple #[]) (W.setCells g ((n - 1) * 6) (Builtin.zeroCells (Value.agg #[.string ⟨#[]⟩, .string ⟨#[]⟩, .bool false, .slice none 0 0, .bool false, .bool false]).cells 1).toList) := fun W hWc hWf ty =>
    run_clear_wide (P := Tryz.prog) W 24 32 ty _ Tryz.underlying24 (fun w => by simp [zeroValue, typeInfo, hi0, hz0]) g ((n - 1) * 6) 1 (c - (n - 1)) (by decide) (fun v hv => by
      exact zero_one v hv)
      (fun j hj => by
        have hj6 : j < 6 := hj
        rw [hWc, ho3.cellAt ((n - 1) * 6 + j) (by omega), List.getElem?_eq_getElem (by omega)]; rfl)
      (fun j hj => by rw [hWf]; exact ho3.frozenAt _)
  obtain ⟨zs, hzsd⟩ : ∃ zs, zs = (Builtin.zeroCells (Value.agg #[.string ⟨#[]⟩, .string ⟨#[]⟩, .bool false, .slice none 0 0, .bool false, .bool false]).cells 1).toList := ⟨_, rfl⟩
  rw [← hzsd] at hcr
  obtain ⟨ho4, hg4⟩ := own_setCells zs ((n - 1) * 6) ho3
  have ho5 := own_cut ho4 (n - 1) (by omega)
  rw [take_setL, show (cs.take (i * 6) ++ cs.drop ((i + 1) * 6) ++ ys).take ((n - 1) * 6) = prV (P.take i ++ P.drop (i + 1)) from by
    have hl : (cs.take (i * 6) ++ cs.drop ((i + 1) * 6)).length = (n - 1) * 6 := by rw [List.length_append, List.length_take, List.length_drop]; omega
    rw [← hl, List.take_left, prV_app, hcs, (prV_cut P i).1, (prV_cut P (i + 1)).2]] at ho5
  have HF := Lib.hid (show DelQ B g n c i P w (.returned (.slice (some ⟨g, 0, none⟩) (n - 1) c)) (w2.setCells g ((n - 1) * 6) zs) from ⟨⟨rfl, ⟨hg4.os.trans hg2.os, hg4.tape.trans hg2.tape, hg4.output.trans hg2.output, Nat.le_trans hg2.size hg4.size, fun k hk hne => (hg4.block k (Nat.lt_of_lt_of_le hk hg2.size) hne).trans (hg2.block k hk hne)⟩⟩, ho5⟩)
  clear ho4 ho5
  generalize DelQ B g n c i P w = Q at *
  have hz1 : ¬ ((i : Int) = (i : Int) + 1) := by omega
  have hb1 : (0 : Int) ≤ (i : Int) := by omega
  have hb2 : (i : Int) ≤ (n : Int) := by omega
  have hb3 : (i : Int) + 1 ≤ (n : Int) := by omega
  have hb4 : (n : Int) ≤ (c : Int) := by omega
  have hb5 : (0 : Int) ≤ (i : Int) + 1 := by omega
  have hb6 : (i : Int) ≤ (c : Int) := by omega
  have hb7 : (i : Int) ≤ (i : Int) + 1 := by omega
  have ht1 : ((i : Int) + 1).toNat = i + 1 := by omega
  have hcn : ¬ (c = n - 1) := by omega
  have hni : ¬ (n = i) := by omega
  have hni2 : ¬ (c = i) := by omega
  have hm1 : ((n - 1 : Nat) : Int) ≤ (n : Int) := by omega
  have hm2 : n - (n - 1) = 1 := by omega
  have HR2 := Lib.hid hr2
  clear hown hcl h1c hcs hcut ho2 ho3 hg2 hg4 hyl hlen3 hzsd hi0 hz0 hzs hzb hn1 hr2 hnP
  go_enter Tryz.func17, Tryz.ntmps17
  go_upto_region 5 with fail
  have hS : True := trivial
  refine wp_region_tail 7 (fun _ => True) (by kernel_rfl) (by decide) ?_
  refine wpAnyT_take 99 0 (v := ?_) (by kernel_rfl) rfl (by kernel_rfl) (fun _ _ _ h => h) (Or.inl ⟨by rfl, fun W hW => ?_⟩) (by with_reducible assumption) ?_
  rotate_left
  focus ((try dsimp only at hW); go_simp; try with_reducible rfl)
  refine wpAnyT_take 99 1 (v := ?_) (by kernel_rfl) rfl (by kernel_rfl) (fun _ _ _ h => h) (Or.inl ⟨by rfl, fun W hW => ?_⟩) (by with_reducible assumption) ?_
  rotate_left
  focus ((try dsimp only at hW); go_simp; try with_reducible rfl)
  refine wpAnyT_take 99 2 (v := ?_) (by kernel_rfl) rfl (by kernel_rfl) (fun _ _ _ h => h) (Or.inl ⟨by rfl, fun W hW => ?_⟩) (by with_reducible assumption) ?_
  rotate_left
  focus ((try dsimp only at hW); go_simp; try with_reducible rfl)
  refine wpAnyT_take 99 3 (v := ?_) (by kernel_rfl) rfl (by kernel_rfl) (fun _ _ _ h => h) (Or.inl ⟨by rfl, fun W hW => ?_⟩) (by with_reducible assumption) ?_
  rotate_left
  focus ((try dsimp only at hW); go_simp; try with_reducible rfl)
  refine wpAnyT_take 99 4 (v := ?_) (by kernel_rfl) rfl (by kernel_rfl) (fun _ _ _ h => h) (Or.inl ⟨by rfl, fun W hW => ?_⟩) (by with_reducible assumption) ?_
  rotate_left
  focus ((try dsimp only at hW); go_simp; try with_reducible rfl)
  refine wpAnyT_take 99 5 (v := ?_) (by kernel_rfl) rfl (by kernel_rfl) (fun _ _ _ h => h) (Or.inl ⟨by rfl, fun W hW => ?_⟩) (by with_reducible assumption) ?_
  rotate_left
  focus ((try dsimp only at hW); go_simp; try with_reducible rfl)
  simp only [Act.put, List.getElem_toArray, List.getElem_cons_zero, List.getElem_cons_succ, List.setIfInBounds_toArray, List.set_cons_zero, List.set_cons_succ]
  refine wpAnyT_one 6 (by kernel_rfl) (by decide) ?_
  refine wpOp_at rfl rfl (fun K hK => ?_)
  refine Lib.wp_append_run _ _ _ 24 24 (by rfl) _ _ (by rfl) (by rfl) _ _ HR2.out ?_
  refine hK.out _ _ ⟨trivial, ?_⟩
  clear hK K
  simp only [Act.put, List.getElem_toArray, List.getElem_cons_zero, List.getElem_cons_succ, List.setIfInBounds_toArray, List.set_cons_zero, List.set_cons_succ]
  refine ⟨by kernel_rfl, ?_⟩
  simp only [List.drop_succ_cons, List.drop_zero]
  clear HR2
  go_wp2_with (at_builtin; refine wpList_clear_eq _ rfl _ 24 rfl _ rfl (hcr _ (fun _ => rfl) (fun _ => rfl) _) ?_)
  exact HF.out
end Go.Proofs.YtiapondfajmkaaaGreatDoor
