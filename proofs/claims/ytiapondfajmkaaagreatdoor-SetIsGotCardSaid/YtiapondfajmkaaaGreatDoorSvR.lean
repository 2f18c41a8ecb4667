/- Shell variables: slices.Insert where there is room; Insert of any kind. -/
import Derived.Test.YtiapondfajmkaaaGreatDoorSvQ
namespace Go.Proofs.YtiapondfajmkaaaGreatDoor
open Go.RowKit

set_option maxRecDepth 100000 in
set_option maxHeartbeats 3200000 in
theorem ins_room (B g n c i vb : Nat) (P : List VE) (x : VE) (w : World) (hown : w.ownsRow B 32 6 (.slice (some ⟨g, 0, none⟩) n c) n (prV P)) (hnP : n = P.length) (hn : n ≤ 2000) (hi : i < n) (hroom : n + 1 ≤ c) (hx : ∀ j u, (cellsV x)[j]? = some u → w.cell? ((⟨vb, 0, none⟩ : Addr).add j) = some u) (hvb : vb ≠ g) (hvx : Blk w vb 32 (cellsV x).toArray) :
    Calls Tryz.prog 152 #[.slice (some ⟨g, 0, none⟩) n c, .int .i64 (i : Int), .slice (some ⟨vb, 0, none⟩) 1 1] w (InsP B g n i P x w) := by
  obtain ⟨i0, hi0, hz0, hzs, hzb⟩ := info_parts varInfo
  have hsz : (Tryz.prog.info? 32).map (·.size) = some 6 := by rw [hi0]; simp [hzs]
  obtain ⟨cs, hcs⟩ : ∃ cs, cs = prV P := ⟨_, rfl⟩
  have hcl : cs.length = n * 6 := by rw [hcs, prV_len, ← hnP]
  obtain ⟨ys, hyl, hW0⟩ := own_ext hown 1 hroom
  rw [← hcs] at hW0
  have h1c : ∀ v ∈ cs, v.oneCell' = true := by rw [hcs]; exact prV_one P
  have hlen0 : (cs ++ ys).length = (n + 1) * 6 := by rw [List.length_append, hcl, hyl]; omega
  have hcell : ∀ j v, cs[j]? = some v → w.cell? ⟨g, j, none⟩ = some v := fun j v h => by
    have hj := (List.getElem?_eq_some_iff.1 h).1
    rw [hW0.cellAt j (by omega), List.getElem?_append_left hj]
    exact h
  obtain ⟨cur, hgb⟩ : ∃ cur, Blk w g 32 cur ∧ 0 < cur.size := by
    rcases hown.2 with ⟨e, _⟩ | ⟨g', c', cur, e, _, hg, _, _, hs, _⟩
    · cases e
    · injection e with e1 _ e3
      injection e1 with e1
      injection e1 with e1 _ _
      subst e1 e3
      exact ⟨cur, hg, by omega⟩
  have hdl : (cs.drop (i * 6)).length = (n - i) * 6 := by rw [List.length_drop, hcl]; omega
  have hov : ∀ lb cb, (callFunc 204 #[.slice (some ⟨vb, 0, none⟩) 1 1, .slice (some ⟨g, (i + 1) * 6, none⟩) lb cb]).run Tryz.prog w = .ok (.value (.bool false)) w := fun lb cb => by
    rw [run_callFunc_extern (show Tryz.prog.funcs[204]? = some Tryz.f204 by kernel_rfl) (by kernel_rfl) (by kernel_rfl) (by kernel_rfl) (e := Extern.SlicesOverlaps.overlaps #[24, 24] #[4]) (by kernel_rfl),
      Lib.run_overlaps_apart w 24 4 32 Tryz.underlying24 6 (fun w => by simp [sizeOf, typeInfo, hi0, hzs]) ⟨vb, 0, none⟩ ⟨g, (i + 1) * 6, none⟩ 1 1 lb cb hvb 32 32 (cellsV x).toArray.size cur.size (by have := hvx; unfold Blk at this; simp only [World.shape?, this]) (by have := hgb.1; unfold Blk at this; simp only [World.shape?, this]) (by have := hgb.2; omega) (hvx.cell.2 _) (hvx.cell.2 _)]
    rfl
  have hcpA : ∀ ty dc sc, (Builtin.copy_ #[24, 24] ty #[.slice (some ⟨g, (i + 1) * 6, none⟩) (n - i) dc, .slice (some ⟨g, i * 6, none⟩) (n + 1 - i) sc]).run Tryz.prog w.drew = .ok (goInt (Nat.min (n + 1 - i) (n - i))) (w.drew.setCells g ((i + 1) * 6) (cs.drop (i * 6))) := fun ty dc sc =>
    run_copy_wide (P := Tryz.prog) w.drew 24 24 ty 32 6 g ((i + 1) * 6) (n - i) dc ⟨g, i * 6, none⟩ (n + 1 - i) sc (cs.drop (i * 6)) Tryz.underlying24 hsz (by rw [hdl, show Nat.min (n + 1 - i) (n - i) = n - i from Nat.min_eq_right (by omega)])
      (fun j v hj => by
        rw [WideShapes.add_plain]
        exact hcell (i * 6 + j) v (by rwa [List.getElem?_drop] at hj))
      (fun j hj => by rw [hdl] at hj; show (w.cell? _).isSome = true; rw [hW0.cellAt ((i + 1) * 6 + j) (by omega), List.getElem?_eq_getElem (by omega)]; rfl)
      (fun j hj => hW0.frozenAt _) (fun v hv => h1c v (List.mem_of_mem_drop hv))
  obtain ⟨hW1, hg1⟩ := own_setCells (cs.drop (i * 6)) ((i + 1) * 6) hW0
  have hx1l : (setL (cs ++ ys) ((i + 1) * 6) (cs.drop (i * 6))).length = (n + 1) * 6 := by rw [setL_len, hlen0]
  have hcpB : ∀ (W : World), (∀ y, W.cell? y = (w.setCells g ((i + 1) * 6) (cs.drop (i * 6))).cell? y) → (∀ y, W.frozen? y = (w.setCells g ((i + 1) * 6) (cs.drop (i * 6))).frozen? y) → ∀ ty dc, (Builtin.copy_ #[24, 24] ty #[.slice (some ⟨g, i * 6, none⟩) (n + 1 - i) dc, .slice (some ⟨vb, 0, none⟩) 1 1]).run Tryz.prog W = .ok (goInt 1) (W.setCells g (i * 6) (cellsV x)) := fun W hWc hWf ty dc => by
    have h := run_copy_wide (P := Tryz.prog) W 24 24 ty 32 6 g (i * 6) (n + 1 - i) dc ⟨vb, 0, none⟩ 1 1 (cellsV x) Tryz.underlying24 hsz (by rw [show Nat.min 1 (n + 1 - i) = 1 from Nat.min_eq_left (by omega)]; rfl)
      (fun j v hj => by
        have := hx j v hj
        rw [WideShapes.add_plain] at this ⊢
        rw [hWc, World.cell?_setCells_out _ _ _ _ _ (fun h _ => absurd h hvb)]
        exact this)
      (fun j hj => by
        have hj6 : j < 6 := hj
        rw [hWc, hW1.cellAt (i * 6 + j) (by omega), List.getElem?_eq_getElem (by omega)]; rfl) (fun j hj => by rw [hWf]; exact hW1.frozenAt _) (cellsV_one x)
    rw [show Nat.min 1 (n + 1 - i) = 1 from Nat.min_eq_left (by omega)] at h
    exact h
  obtain ⟨hW2, hg2⟩ := own_setCells (cellsV x) (i * 6) hW1
  have hfinal : setL (setL (cs ++ ys) ((i + 1) * 6) (cs.drop (i * 6))) (i * 6) (cellsV x) = prV (P.take i ++ x :: P.drop i) := by
    rw [prV_ins, ← hcs]
    have e : (i + 1) * 6 = i * 6 + 6 := by omega
    rw [e]
    exact two_puts_r (cs ++ ys) (cs.take (i * 6)) (cellsV x) (cs.drop (i * 6)) (i * 6) 6 (by rw [List.take_append_of_le_length (by omega)]) rfl (by rw [hlen0, hdl]; omega)
  rw [hfinal] at hW2
  have hgall : w.grownBy ((w.setCells g ((i + 1) * 6) (cs.drop (i * 6))).setCells g (i * 6) (cellsV x)) (some g) := ⟨hg2.os.trans hg1.os, hg2.tape.trans hg1.tape, hg2.output.trans hg1.output, Nat.le_trans hg1.size hg2.size, fun j hj hne => (hg2.block j (Nat.lt_of_lt_of_le hj hg1.size) hne).trans (hg1.block j hj hne)⟩
  have HF := Lib.hid (show ∀ w' : World, w'.ownsRow B 32 6 (.slice (some ⟨g, 0, none⟩) (n + 1) c) (n + 1) (prV (P.take i ++ x :: P.drop i)) → w.grownBy w' (some g) → InsP B g n i P x w (.returned (.slice (some ⟨g, 0, none⟩) (n + 1) c)) w' from fun w' h1 h2 => ⟨g, c, rfl, h1, h2⟩)
  generalize InsP B g n i P x w = Q at *
  have HW2 := Lib.hid (And.intro hW2 hgall)
  have hc63 : c ≤ 9223372036854775807 := by
    rcases hown.2 with ⟨e, _⟩ | ⟨g', c', cur, e, _, hg, _, hm, hs, _⟩
    · cases e
    · injection e with _ _ e3
      unfold maxLen at hm
      omega
  have hz1 : ¬ ((i : Int) = (n : Int)) := by omega
  have hb1 : (0 : Int) ≤ (i : Int) := by omega
  have hb2 : (i : Int) ≤ (n : Int) := by omega
  have hb3 : ¬ (c : Int) < (n : Int) + 1 := by omega
  have hb3' : (n : Int) + 1 ≤ (c : Int) := by omega
  have hw1 : IntKind.i64.wrap ((i : Int) + 1) = (i : Int) + 1 := by exact IntWalk.i64_in _ (by omega)
  have hw2 : IntKind.i64.wrap ((n : Int) + 1) = (n : Int) + 1 := by exact IntWalk.i64_in _ (by omega)
  have hc1 : ¬ (c = i) := by omega
  have hc2 : ¬ (c = i + 1) := by omega
  have hb4 : (i : Int) + 1 ≤ (n : Int) + 1 := by omega
  have hb5 : (0 : Int) ≤ (i : Int) + 1 := by omega
  have hb7 : (0 : Int) ≤ (n : Int) + 1 := by omega
  have ht1 : ((i : Int) + 1).toNat = i + 1 := by omega
  have ht2 : ((n : Int) + 1).toNat = n + 1 := by omega
  have hb6 : (i : Int) ≤ (n : Int) + 1 := by omega
  have HOV := Lib.hid hov
  obtain ⟨dr, hdr⟩ : ∃ dr, dr = cs.drop (i * 6) := ⟨_, rfl⟩
  rw [← hdr] at hcpA hcpB HW2
  generalize cellsV x = cx at *
  clear hown hnP hcs hcl h1c hdl hlen0 hx1l hfinal hW0 hW1 hW2 hg1 hg2 hgall hi0 hz0 hzs hzb hsz hyl hcell hgb hdr hvx hov
  have hov := HOV.out
  go_enter Tryz.func152, Tryz.ntmps152
  go_upto_region 15 with (simp only [hov])
  clear hov HOV
  have hS : True := trivial
  refine wp_region_tail 8 (fun _ => True) (by kernel_rfl) (by decide) ?_
  refine wpAnyT_take 99 0 (v := ?_) (by kernel_rfl) rfl (by kernel_rfl) (fun _ _ _ h => h) (Or.inl ⟨by rfl, fun W hW => ?_⟩) (by with_reducible assumption) ?_
  rotate_left
  focus ((try dsimp only at hW); go_simp; try with_reducible rfl)
  refine wpAnyT_take 99 1 (v := ?_) (by kernel_rfl) rfl (by kernel_rfl) (fun _ _ _ h => h) (Or.inl ⟨by rfl, fun W hW => ?_⟩) (by with_reducible assumption) ?_
  rotate_left
  focus ((try dsimp only at hW); go_simp; try with_reducible rfl)
  refine wpAnyT_take 99 2 (v := ?_) (by kernel_rfl) rfl (by kernel_rfl) (fun _ _ _ h => h) (Or.inl ⟨by rfl, fun W hW => ?_⟩) (by with_reducible assumption) ?_
  rotate_left
  focus ((try dsimp only at hW); go_simp; try with_reducible rfl)
  refine wpAnyT_take 99 3 (v := ?_) (by kernel_rfl) rfl (by kernel_rfl) (fun _ _ _ h => h) (Or.inl ⟨by rfl, fun W hW => ?_⟩) (by with_reducible assumption) ?_
  rotate_left
  focus ((try dsimp only at hW); go_simp; try with_reducible rfl)
  refine wpAnyT_take 99 4 (v := ?_) (by kernel_rfl) rfl (by kernel_rfl) (fun _ _ _ h => h) (Or.inl ⟨by rfl, fun W hW => ?_⟩) (by with_reducible assumption) ?_
  rotate_left
  focus ((try dsimp only at hW); go_simp; try with_reducible rfl)
  refine wpAnyT_take 99 5 (v := ?_) (by kernel_rfl) rfl (by kernel_rfl) (fun _ _ _ h => h) (Or.inl ⟨by rfl, fun W hW => ?_⟩) (by with_reducible assumption) ?_
  rotate_left
  focus ((try dsimp only at hW); go_simp; try with_reducible rfl)
  refine wpAnyT_take 99 6 (v := ?_) (by kernel_rfl) rfl (by kernel_rfl) (fun _ _ _ h => h) (Or.inl ⟨by rfl, fun W hW => ?_⟩) (by with_reducible assumption) ?_
  rotate_left
  focus ((try dsimp only at hW); go_simp; try with_reducible rfl)
  refine wpAnyT_take 99 7 (v := ?_) (by kernel_rfl) rfl (by kernel_rfl) (fun _ _ _ h => h) (Or.inl ⟨by rfl, fun W hW => ?_⟩) (by with_reducible assumption) ?_
  rotate_left
  focus ((try dsimp only at hW); go_simp; try with_reducible rfl)
  simp only [Act.put, List.getElem_toArray, List.getElem_cons_zero, List.getElem_cons_succ, List.setIfInBounds_toArray, List.set_cons_zero, List.set_cons_succ]
  refine ⟨by kernel_rfl, ?_⟩
  simp only [List.drop_succ_cons, List.drop_zero]
  refine wpList_copy_eq _ rfl _ _ 24 24 rfl _ _ rfl rfl (hcpA 3 (c - (i + 1)) (c - i)) ?_
  have hF1 : ∀ y, (w.drew.setCells g ((i + 1) * 6) dr).cell? y = (w.setCells g ((i + 1) * 6) dr).cell? y := fun y => by rw [setCells_drew]; rfl
  have hF2 : ∀ y, (w.drew.setCells g ((i + 1) * 6) dr).frozen? y = (w.setCells g ((i + 1) * 6) dr).frozen? y := fun y => by rw [setCells_drew]; rfl
  have HG := Lib.hid (HF.out ((w.drew.setCells g ((i + 1) * 6) dr).setCells g (i * 6) cx) (by rw [setCells_drew, setCells_drew]; exact own_keep HW2.out.1 (Below.refl _ _).drew) (by rw [setCells_drew, setCells_drew]; exact ⟨HW2.out.2.os, HW2.out.2.tape, HW2.out.2.output, HW2.out.2.size, HW2.out.2.block⟩))
  go_wp2_with (at_builtin; refine wpList_copy_eq _ rfl _ _ 24 24 rfl _ _ rfl rfl (hcpB _ hF1 hF2 3 (c - i)) ?_)
  exact HG.out
theorem insert_any (B g n c i vb : Nat) (P : List VE) (x : VE) (w : World) (hown : w.ownsRow B 32 6 (.slice (some ⟨g, 0, none⟩) n c) n (prV P)) (hnP : n = P.length) (hn : n ≤ 2000) (hi : i ≤ n) (hB : B ≤ w.heap.size) (hvb : vb ≠ g) (hvx : Blk w vb 32 (cellsV x).toArray) :
    Calls Tryz.prog 152 #[.slice (some ⟨g, 0, none⟩) n c, .int .i64 (i : Int), .slice (some ⟨vb, 0, none⟩) 1 1] w (InsP B g n i P x w) := by
  have hx : ∀ j u, (cellsV x)[j]? = some u → w.cell? ((⟨vb, 0, none⟩ : Addr).add j) = some u := fun j u h => by
    rw [WideShapes.add_plain, Nat.zero_add, hvx.cell.1 j, ← h]
    exact List.getElem?_toArray
  rcases Nat.lt_or_ge i n with h | h
  · rcases Nat.lt_or_ge c (n + 1) with hc | hc
    · exact ins_grow B g n c i vb P x w hown hnP hn h hc hB hx hvx.lt
    · exact ins_room B g n c i vb P x w hown hnP hn h hc hx hvb hvx
  · obtain rfl : i = n := by omega
    exact ins_end B g i c vb P x w hown hnP hn hB hx
end Go.Proofs.YtiapondfajmkaaaGreatDoor
