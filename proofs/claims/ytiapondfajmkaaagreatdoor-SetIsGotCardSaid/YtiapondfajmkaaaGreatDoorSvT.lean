/- Shell variables: slices.Delete of one, drop. -/
import Derived.Test.YtiapondfajmkaaaGreatDoorSvS
namespace Go.Proofs.YtiapondfajmkaaaGreatDoor
open Go.RowKit

def DelP (g n c : Nat) (w : World) (e : Ending) (w' : World) : Prop := e = .returned (.slice (some ⟨g, 0, none⟩) (n - 1) c) ∧ w.grownBy w' (some g)
theorem zero_one (v : Value) (hv : v ∈ (Builtin.zeroCells (Value.agg #[.string ⟨#[]⟩, .string ⟨#[]⟩, .bool false, .slice none 0 0, .bool false, .bool false]).cells 1).toList) : v.oneCell' = true := by
  unfold Builtin.zeroCells at hv
  rw [Array.toList_map, List.mem_map] at hv
  obtain ⟨i, hi, rfl⟩ := hv
  have hi6 : i < 6 := by
    simp only [Array.toList_range, List.mem_range] at hi
    exact Nat.lt_of_lt_of_eq hi rfl
  have : i = 0 ∨ i = 1 ∨ i = 2 ∨ i = 3 ∨ i = 4 ∨ i = 5 := by omega
  rcases this with rfl | rfl | rfl | rfl | rfl | rfl <;> rfl
theorem own_grown_drew {w w' : World} {g : Nat} (h : w.grownBy w' (some g)) : w.grownBy w'.drew (some g) := ⟨h.os, h.tape, h.output, h.size, h.block⟩
set_option maxRecDepth 100000 in
set_option maxHeartbeats 3200000 in
theorem del_any (B g n c i : Nat) (P : List VE) (w : World) (hown : w.ownsRow B 32 6 (.slice (some ⟨g, 0, none⟩) n c) n (prV P)) (hnP : n = P.length) (hn : n ≤ 2000) (hi : i < n) (hci : ¬ (c = i + 1)) :
    Calls Tryz.prog 17 #[.slice (some ⟨g, 0, none⟩) n c, .int .i64 (i : Int), .int .i64 ((i : Int) + 1)] w (DelP g n c w) := by
  obtain ⟨i0, hi0, hz0, hzs, hzb⟩ := info_parts varInfo
  obtain ⟨hnc, hc63⟩ : n ≤ c ∧ c ≤ 9223372036854775807 := by
    rcases hown.2 with ⟨e, _⟩ | ⟨g', c', cur, e, _, hg, h1, hm, hs, _⟩
    · cases e
    · injection e with _ _ e3
      unfold maxLen at hm
      omega
  obtain ⟨cs, hcs⟩ : ∃ cs, cs = prV P := ⟨_, rfl⟩
  rw [← hcs] at hown
  have hcl : cs.length = n * 6 := hown.1
  have h1c : ∀ v ∈ cs, v.oneCell' = true := by rw [hcs]; exact prV_one P
  have hcut := own_keep (own_cut hown i (by omega)) (Below.refl _ w).drew
  obtain ⟨w2, hr2, ho2, hg2⟩ := run_append_fits (P := Tryz.prog) w.drew B 24 24 32 i0 6 Tryz.underlying24 hi0 hzs g i c (cs.take (i * 6)) hcut ⟨g, (i + 1) * 6, none⟩ (n - (i + 1)) (c - (i + 1)) (cs.drop ((i + 1) * 6)) (by rw [List.length_drop, hcl]; omega)
    (fun j u hu => by
      have hj := (List.getElem?_eq_some_iff.1 hu).1
      rw [List.length_drop, hcl] at hj
      rw [WideShapes.add_plain]
      show w.cell? _ = some u
      rw [hown.cellAt _ (by omega)]
      rwa [List.getElem?_drop] at hu) (fun v hv => h1c v (List.mem_of_mem_drop hv)) (by omega)
  have hn1 : i + (n - (i + 1)) = n - 1 := by omega
  rw [hn1] at hr2 ho2
  obtain ⟨ys, hyl, ho3⟩ := own_ext ho2 1 (by omega)
  rw [show n - 1 + 1 = n by omega] at ho3
  have hlen3 : (cs.take (i * 6) ++ cs.drop ((i + 1) * 6) ++ ys).length = n * 6 := ho3.1
  have hcr : ∀ (W : World), (∀ y, W.cell? y = w2.cell? y) → (∀ y, W.frozen? y = w2.frozen? y) → ∀ ty, (Builtin.clear_ #[24] ty #[.slice (some ⟨g, (n - 1) * 6, none⟩) 1 (c - (n - 1))]).run Tryz.prog W = .ok (.tuple #[]) (W.setCells g ((n - 1) * 6) (Builtin.zeroCells (Value.agg #[.string ⟨#[]⟩, .string ⟨#[]⟩, .bool false, .slice none 0 0, .bool false, .bool false]).cells 1).toList) := fun W hWc hWf ty =>
    run_clear_wide (P := Tryz.prog) W 24 32 ty _ Tryz.underlying24 (fun w => by simp [zeroValue, typeInfo, hi0, hz0]) g ((n - 1) * 6) 1 (c - (n - 1)) (by decide) (fun v hv => by
      exact zero_one v hv)
      (fun j hj => by
        have hj6 : j < 6 := hj
        rw [hWc, ho3.cellAt ((n - 1) * 6 + j) (by omega), List.getElem?_eq_getElem (by omega)]; rfl)
      (fun j hj => by rw [hWf]; exact ho3.frozenAt _)
  obtain ⟨zs, hzsd⟩ : ∃ zs, zs = (Builtin.zeroCells (Value.agg #[.string ⟨#[]⟩, .string ⟨#[]⟩, .bool false, .slice none 0 0, .bool false, .bool false]).cells 1).toList := ⟨_, rfl⟩
  rw [← hzsd] at hcr
  obtain ⟨_, hg4⟩ := own_setCells zs ((n - 1) * 6) ho3
  have HF := Lib.hid (show DelP g n c w (.returned (.slice (some ⟨g, 0, none⟩) (n - 1) c)) (w2.setCells g ((n - 1) * 6) zs) from ⟨rfl, ⟨hg4.os.trans hg2.os, hg4.tape.trans hg2.tape, hg4.output.trans hg2.output, Nat.le_trans hg2.size hg4.size, fun k hk hne => (hg4.block k (Nat.lt_of_lt_of_le hk hg2.size) hne).trans (hg2.block k hk hne)⟩⟩)
  generalize DelP g n c w = Q at *
  have hz1 : ¬ ((i : Int) = (i : Int) + 1) := by omega
  have hb1 : (0 : Int) ≤ (i : Int) := by omega
  have hb2 : (i : Int) ≤ (n : Int) := by omega
  have hb3 : (i : Int) + 1 ≤ (n : Int) := by omega
  have hb4 : (n : Int) ≤ (c : Int) := by omega
  have hb5 : (0 : Int) ≤ (i : Int) + 1 := by omega
  have hb6 : (i : Int) ≤ (c : Int) := by omega
  have hb7 : (i : Int) ≤ (i : Int) + 1 := by omega
  have ht1 : ((i : Int) + 1).toNat = i + 1 := by omega
  have hcn : ¬ (c = n - 1) := by omega
  have hni : ¬ (n = i) := by omega
  have hni2 : ¬ (c = i) := by omega
  have hm1 : ((n - 1 : Nat) : Int) ≤ (n : Int) := by omega
  have hm2 : n - (n - 1) = 1 := by omega
  have HR2 := Lib.hid hr2
  clear hown hcl h1c hcs hcut ho2 ho3 hg2 hg4 hyl hlen3 hzsd hi0 hz0 hzs hzb hn1 hr2 hnP
  go_enter Tryz.func17, Tryz.ntmps17
  go_upto_region 5 with fail
  have hS : True := trivial
  refine wp_region_tail 7 (fun _ => True) (by kernel_rfl) (by decide) ?_
  refine wpAnyT_take 99 0 (v := ?_) (by kernel_rfl) rfl (by kernel_rfl) (fun _ _ _ h => h) (Or.inl ⟨by rfl, fun W hW => ?_⟩) (by with_reducible assumption) ?_
  rotate_left
  focus ((try dsimp only at hW); go_simp; try with_reducible rfl)
  refine wpAnyT_take 99 1 (v := ?_) (by kernel_rfl) rfl (by kernel_rfl) (fun _ _ _ h => h) (Or.inl ⟨by rfl, fun W hW => ?_⟩) (by with_reducible assumption) ?_
  rotate_left
  focus ((try dsimp only at hW); go_simp; try with_reducible rfl)
  refine wpAnyT_take 99 2 (v := ?_) (by kernel_rfl) rfl (by kernel_rfl) (fun _ _ _ h => h) (Or.inl ⟨by rfl, fun W hW => ?_⟩) (by with_reducible assumption) ?_
  rotate_left
  focus ((try dsimp only at hW); go_simp; try with_reducible rfl)
  refine wpAnyT_take 99 3 (v := ?_) (by kernel_rfl) rfl (by kernel_rfl) (fun _ _ _ h => h) (Or.inl ⟨by rfl, fun W hW => ?_⟩) (by with_reducible assumption) ?_
  rotate_left
  focus ((try dsimp only at hW); go_simp; try with_reducible rfl)
  refine wpAnyT_take 99 4 (v := ?_) (by kernel_rfl) rfl (by kernel_rfl) (fun _ _ _ h => h) (Or.inl ⟨by rfl, fun W hW => ?_⟩) (by with_reducible assumption) ?_
  rotate_left
  focus ((try dsimp only at hW); go_simp; try with_reducible rfl)
  refine wpAnyT_take 99 5 (v := ?_) (by kernel_rfl) rfl (by kernel_rfl) (fun _ _ _ h => h) (Or.inl ⟨by rfl, fun W hW => ?_⟩) (by with_reducible assumption) ?_
  rotate_left
  focus ((try dsimp only at hW); go_simp; try with_reducible rfl)
  simp only [Act.put, List.getElem_toArray, List.getElem_cons_zero, List.getElem_cons_succ, List.setIfInBounds_toArray, List.set_cons_zero, List.set_cons_succ]
  refine wpAnyT_one 6 (by kernel_rfl) (by decide) ?_
  refine wpOp_at rfl rfl (fun K hK => ?_)
  refine Lib.wp_append_run _ _ _ 24 24 (by rfl) _ _ (by rfl) (by rfl) _ _ HR2.out ?_
  refine hK.out _ _ ⟨trivial, ?_⟩
  clear hK K
  simp only [Act.put, List.getElem_toArray, List.getElem_cons_zero, List.getElem_cons_succ, List.setIfInBounds_toArray, List.set_cons_zero, List.set_cons_succ]
  refine ⟨by kernel_rfl, ?_⟩
  simp only [List.drop_succ_cons, List.drop_zero]
  clear HR2
  go_wp2_with (at_builtin; refine wpList_clear_eq _ rfl _ 24 rfl _ rfl (hcr _ (fun _ => rfl) (fun _ => rfl) _) ?_)
  exact HF.out
set_option maxRecDepth 100000 in
set_option maxHeartbeats 3200000 in
theorem del_last (B g i : Nat) (P : List VE) (w : World) (hown : w.ownsRow B 32 6 (.slice (some ⟨g, 0, none⟩) (i + 1) (i + 1)) (i + 1) (prV P)) (hnP : i + 1 = P.length) (hn : i + 1 ≤ 2000) :
    Calls Tryz.prog 17 #[.slice (some ⟨g, 0, none⟩) (i + 1) (i + 1), .int .i64 (i : Int), .int .i64 ((i : Int) + 1)] w (DelP g (i + 1) (i + 1) w) := by
  obtain ⟨i0, hi0, hz0, hzs, hzb⟩ := info_parts varInfo
  obtain ⟨cs, hcs⟩ : ∃ cs, cs = prV P := ⟨_, rfl⟩
  rw [← hcs] at hown
  have hcl : cs.length = (i + 1) * 6 := hown.1
  have hcut := own_keep (own_cut hown i (by omega)) (Below.refl _ w).drew
  obtain ⟨w2, hr2, ho2, hg2⟩ := run_append_fits (P := Tryz.prog) w.drew B 24 24 32 i0 6 Tryz.underlying24 hi0 hzs g i (i + 1) (cs.take (i * 6)) hcut ⟨g, 0, none⟩ 0 0 [] rfl (fun j u hu => by cases hu) (fun v hv => by cases hv) (by omega)
  rw [Nat.add_zero, List.append_nil] at ho2
  rw [Nat.add_zero] at hr2
  obtain ⟨ys, hyl, ho3⟩ := own_ext ho2 1 (by omega)
  have hlen3 : (cs.take (i * 6) ++ ys).length = (i + 1) * 6 := ho3.1
  have hcr : ∀ (W : World), (∀ y, W.cell? y = w2.cell? y) → (∀ y, W.frozen? y = w2.frozen? y) → ∀ ty, (Builtin.clear_ #[24] ty #[.slice (some ⟨g, i * 6, none⟩) 1 1]).run Tryz.prog W = .ok (.tuple #[]) (W.setCells g (i * 6) (Builtin.zeroCells (Value.agg #[.string ⟨#[]⟩, .string ⟨#[]⟩, .bool false, .slice none 0 0, .bool false, .bool false]).cells 1).toList) := fun W hWc hWf ty =>
    run_clear_wide (P := Tryz.prog) W 24 32 ty _ Tryz.underlying24 (fun w => by simp [zeroValue, typeInfo, hi0, hz0]) g (i * 6) 1 1 (by decide) (fun v hv => by
      exact zero_one v hv)
      (fun j hj => by
        have hj6 : j < 6 := hj
        rw [hWc, ho3.cellAt (i * 6 + j) (by omega), List.getElem?_eq_getElem (by omega)]; rfl)
      (fun j hj => by rw [hWf]; exact ho3.frozenAt _)
  obtain ⟨zs, hzsd⟩ : ∃ zs, zs = (Builtin.zeroCells (Value.agg #[.string ⟨#[]⟩, .string ⟨#[]⟩, .bool false, .slice none 0 0, .bool false, .bool false]).cells 1).toList := ⟨_, rfl⟩
  rw [← hzsd] at hcr
  obtain ⟨_, hg4⟩ := own_setCells zs (i * 6) ho3
  have HF := Lib.hid (show DelP g (i + 1) (i + 1) w (.returned (.slice (some ⟨g, 0, none⟩) i (i + 1))) (w2.setCells g (i * 6) zs) from ⟨rfl, ⟨hg4.os.trans hg2.os, hg4.tape.trans hg2.tape, hg4.output.trans hg2.output, Nat.le_trans hg2.size hg4.size, fun k hk hne => (hg4.block k (Nat.lt_of_lt_of_le hk hg2.size) hne).trans (hg2.block k hk hne)⟩⟩)
  generalize DelP g (i + 1) (i + 1) w = Q at *
  have hz1 : ¬ ((i : Int) = (i : Int) + 1) := by omega
  have hb1 : (0 : Int) ≤ (i : Int) := by omega
  have hb2 : (i : Int) ≤ (i : Int) + 1 := by omega
  have hb5 : (0 : Int) ≤ (i : Int) + 1 := by omega
  have ht1 : ((i : Int) + 1).toNat = i + 1 := by omega
  have hni : ¬ (i + 1 = i) := by omega
  have hm2 : i + 1 - i = 1 := by omega
  have HR2 := Lib.hid hr2
  clear hown hcl hcs hcut ho2 ho3 hg2 hg4 hyl hlen3 hzsd hi0 hz0 hzs hzb hr2 hnP
  go_enter Tryz.func17, Tryz.ntmps17
  go_upto_region 5 with fail
  have hS : True := trivial
  refine wp_region_tail 7 (fun _ => True) (by kernel_rfl) (by decide) ?_
  refine wpAnyT_take 99 0 (v := ?_) (by kernel_rfl) rfl (by kernel_rfl) (fun _ _ _ h => h) (Or.inl ⟨by rfl, fun W hW => ?_⟩) (by with_reducible assumption) ?_
  rotate_left
  focus ((try dsimp only at hW); go_simp; try with_reducible rfl)
  refine wpAnyT_take 99 1 (v := ?_) (by kernel_rfl) rfl (by kernel_rfl) (fun _ _ _ h => h) (Or.inl ⟨by rfl, fun W hW => ?_⟩) (by with_reducible assumption) ?_
  rotate_left
  focus ((try dsimp only at hW); go_simp; try with_reducible rfl)
  refine wpAnyT_take 99 2 (v := ?_) (by kernel_rfl) rfl (by kernel_rfl) (fun _ _ _ h => h) (Or.inl ⟨by rfl, fun W hW => ?_⟩) (by with_reducible assumption) ?_
  rotate_left
  focus ((try dsimp only at hW); go_simp; try with_reducible rfl)
  refine wpAnyT_take 99 3 (v := ?_) (by kernel_rfl) rfl (by kernel_rfl) (fun _ _ _ h => h) (Or.inl ⟨by rfl, fun W hW => ?_⟩) (by with_reducible assumption) ?_
  rotate_left
  focus ((try dsimp only at hW); go_simp; try with_reducible rfl)
  refine wpAnyT_take 99 4 (v := ?_) (by kernel_rfl) rfl (by kernel_rfl) (fun _ _ _ h => h) (Or.inl ⟨by rfl, fun W hW => ?_⟩) (by with_reducible assumption) ?_
  rotate_left
  focus ((try dsimp only at hW); go_simp; try with_reducible rfl)
  refine wpAnyT_take 99 5 (v := ?_) (by kernel_rfl) rfl (by kernel_rfl) (fun _ _ _ h => h) (Or.inl ⟨by rfl, fun W hW => ?_⟩) (by with_reducible assumption) ?_
  rotate_left
  focus ((try dsimp only at hW); go_simp; try with_reducible rfl)
  simp only [Act.put, List.getElem_toArray, List.getElem_cons_zero, List.getElem_cons_succ, List.setIfInBounds_toArray, List.set_cons_zero, List.set_cons_succ]
  refine wpAnyT_one 6 (by kernel_rfl) (by decide) ?_
  refine wpOp_at rfl rfl (fun K hK => ?_)
  refine Lib.wp_append_run _ _ _ 24 24 (by rfl) _ _ (by rfl) (by rfl) _ _ HR2.out ?_
  refine hK.out _ _ ⟨trivial, ?_⟩
  clear hK K
  simp only [Act.put, List.getElem_toArray, List.getElem_cons_zero, List.getElem_cons_succ, List.setIfInBounds_toArray, List.set_cons_zero, List.set_cons_succ]
  refine ⟨by kernel_rfl, ?_⟩
  simp only [List.drop_succ_cons, List.drop_zero]
  clear HR2
  go_wp2_with (at_builtin; refine wpList_clear_eq _ rfl _ 24 rfl _ rfl (hcr _ (fun _ => rfl) (fun _ => rfl) _) ?_)
  exact HF.out
theorem delete_any (B g n c i : Nat) (P : List VE) (w : World) (hown : w.ownsRow B 32 6 (.slice (some ⟨g, 0, none⟩) n c) n (prV P)) (hnP : n = P.length) (hn : n ≤ 2000) (hi : i < n) :
    Calls Tryz.prog 17 #[.slice (some ⟨g, 0, none⟩) n c, .int .i64 (i : Int), .int .i64 ((i : Int) + 1)] w (DelP g n c w) := by
  have hnc : n ≤ c := by
    rcases hown.2 with ⟨e, _⟩ | ⟨g', c', cur, e, _, hg, h1, hm, hs, _⟩
    · cases e
    · injection e with _ _ e3
      omega
  by_cases hci : c = i + 1
  · obtain rfl : n = i + 1 := by omega
    subst hci
    exact del_last B g i P w hown hnP hn
  · exact del_any B g n c i P w hown hnP hn hi hci
end Go.Proofs.YtiapondfajmkaaaGreatDoor
