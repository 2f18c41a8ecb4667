/- Shell variables: slices.Insert of one. -/
import Derived.Test.YtiapondfajmkaaaGreatDoorSvP
import Derived.Deep.RegionLaw
namespace Go.Proofs.YtiapondfajmkaaaGreatDoor
open Go.RowKit

def InsP (B g n i : Nat) (P : List VE) (x : VE) (w : World) (e : Ending) (w' : World) : Prop :=
  ∃ g' c', e = .returned (.slice (some ⟨g', 0, none⟩) (n + 1) c') ∧ w'.ownsRow B 32 6 (.slice (some ⟨g', 0, none⟩) (n + 1) c') (n + 1) (prV (P.take i ++ x :: P.drop i)) ∧ w.grownBy w' (some g)
theorem cellsV_one (x : VE) : ∀ v ∈ cellsV x, v.oneCell' = true := fun v hv => by
  simp only [cellsV, List.mem_cons, List.not_mem_nil, or_false] at hv
  obtain rfl | rfl | rfl | rfl | rfl | rfl := hv <;> rfl
theorem own_some {w : World} {B sz n : Nat} {T : TypeId} {v : Value} {xs : List Value} (h : w.ownsRow B T sz v n xs) (h0 : 0 < n) : ∃ g c, v = .slice (some ⟨g, 0, none⟩) n c := by
  rcases h.2 with ⟨_, e⟩ | ⟨g, c, cur, e, _⟩
  · omega
  · exact ⟨g, c, e⟩
set_option maxRecDepth 100000 in
set_option maxHeartbeats 3200000 in
theorem ins_end (B g n c vb : Nat) (P : List VE) (x : VE) (w : World) (hown : w.ownsRow B 32 6 (.slice (some ⟨g, 0, none⟩) n c) n (prV P)) (hnP : n = P.length) (hn : n ≤ 2000) (hB : B ≤ w.heap.size) (hx : ∀ j u, (cellsV x)[j]? = some u → w.cell? ((⟨vb, 0, none⟩ : Addr).add j) = some u) :
    Calls Tryz.prog 152 #[.slice (some ⟨g, 0, none⟩) n c, .int .i64 (n : Int), .slice (some ⟨vb, 0, none⟩) 1 1] w (InsP B g n n P x w) := by
  obtain ⟨i0, hi0, hz0, hz1, hz2⟩ := info_parts varInfo
  have HQ := Lib.hid (fun (v' : Value) (w' : World) (h1 : w'.ownsRow B 32 6 v' (n + 1) (prV P ++ cellsV x)) (h2 : w.grownBy w' (some g)) => (show InsP B g n n P x w (.returned v') w' from by
    obtain ⟨g', c', rfl⟩ := own_some h1 (Nat.succ_pos _)
    refine ⟨g', c', rfl, ?_, h2⟩
    rw [List.take_of_length_le (by omega), List.drop_of_length_le (by omega), prV_app]
    simpa [prV] using h1))
  generalize InsP B g n n P x w = Q at *
  clear hnP
  have hlen : n ≤ c := by
    rcases hown.2 with ⟨e, _⟩ | ⟨_, _, _, e, _, _, h, _⟩
    · cases e
    · injection e with _ _ e; omega
  have hnz : (n : Int) ≤ (n : Int) := Int.le_refl _
  have hn0 : (0 : Int) ≤ (n : Int) := by omega
  have HO := Lib.hid hown
  clear hown
  by_cases hcn : c = n
  · subst hcn
    go_enter Tryz.func152, Tryz.ntmps152
    go_wp2_with (at_builtin; refine wpList_append_own _ rfl _ _ 24 rfl B 32 i0 _ 6 72 Tryz.underlying24 hi0 hz0 hz1 hz2 rfl (by decide) _ c (prV P) rfl HO.out ⟨vb, 0, none⟩ 1 1 (cellsV x) rfl rfl hx (cellsV_one x) (by unfold maxLen; omega) (by omega) hB ?_)
    intro v' w' h1 h2 _
    have HF := Lib.hid (HQ.out v' w' h1 h2)
    clear h1 h2
    go_wp2_with fail
    exact HF.out
  · have hcn2 : ¬ ((c : Int) = (n : Int)) := by omega
    go_enter Tryz.func152, Tryz.ntmps152
    go_wp2_with (at_builtin; refine wpList_append_own _ rfl _ _ 24 rfl B 32 i0 _ 6 72 Tryz.underlying24 hi0 hz0 hz1 hz2 rfl (by decide) _ n (prV P) rfl HO.out ⟨vb, 0, none⟩ 1 1 (cellsV x) rfl rfl hx (cellsV_one x) (by unfold maxLen; omega) (by omega) hB ?_)
    intro v' w' h1 h2 _
    have HF := Lib.hid (HQ.out v' w' h1 h2)
    clear h1 h2
    go_wp2_with fail
    exact HF.out
theorem two_puts (xs0 a b r : List Value) (k m : Nat) (ha : xs0.take k = a) (hk : a.length = k) (hb : b.length = m) (hl : xs0.length = k + m + r.length) : setL (setL xs0 k b) (k + m) r = a ++ b ++ r := by
  have e1 := setL_eq b xs0 k (by omega)
  have e2 : (setL xs0 k b).length = xs0.length := setL_len b xs0 k
  rw [setL_eq r _ (k + m) (by rw [e2]; omega), List.drop_of_length_le (by rw [e2]; omega), List.append_nil, e1, ha]
  have hab : (a ++ b).length = k + m := by rw [List.length_append, hk, hb]
  rw [← hab, List.take_left]
theorem two_puts_r (xs0 a b r : List Value) (k m : Nat) (ha : xs0.take k = a) (hb : b.length = m) (hl : xs0.length = k + m + r.length) : setL (setL xs0 (k + m) r) k b = a ++ b ++ r := by
  have e1 := setL_eq r xs0 (k + m) (by omega)
  have e2 : (setL xs0 (k + m) r).length = xs0.length := setL_len r xs0 (k + m)
  rw [setL_eq b _ k (by rw [e2]; omega), e1, List.drop_of_length_le (show xs0.length ≤ k + m + r.length by omega), List.append_nil]
  have hl1 : (xs0.take (k + m)).length = k + m := by rw [List.length_take]; omega
  rw [List.take_append_of_le_length (by omega), List.take_take, Nat.min_eq_left (by omega), ha]
  congr 1
  rw [hb, List.drop_append_of_le_length (by omega), List.drop_of_length_le (by omega), List.nil_append]
set_option maxRecDepth 100000 in
set_option maxHeartbeats 3200000 in
theorem ins_grow (B g n c i vb : Nat) (P : List VE) (x : VE) (w : World) (hown : w.ownsRow B 32 6 (.slice (some ⟨g, 0, none⟩) n c) n (prV P)) (hnP : n = P.length) (hn : n ≤ 2000) (hi : i < n) (hroom : c < n + 1) (hB : B ≤ w.heap.size) (hx : ∀ j u, (cellsV x)[j]? = some u → w.cell? ((⟨vb, 0, none⟩ : Addr).add j) = some u) (hvb : vb < w.heap.size) :
    Calls Tryz.prog 152 #[.slice (some ⟨g, 0, none⟩) n c, .int .i64 (i : Int), .slice (some ⟨vb, 0, none⟩) 1 1] w (InsP B g n i P x w) := by
  obtain ⟨i0, hi0, hz0, hzs, hzb⟩ := info_parts varInfo
  have hlen : n ≤ c := by
    rcases hown.2 with ⟨e, _⟩ | ⟨_, _, _, e, _, _, h, _⟩
    · cases e
    · injection e with _ _ e; omega
  obtain rfl : c = n := by omega
  have hsz : (Tryz.prog.info? 32).map (·.size) = some 6 := by rw [hi0]; simp [hzs]
  obtain ⟨cs, hcs⟩ : ∃ cs, cs = prV P := ⟨_, rfl⟩
  have hcl : cs.length = c * 6 := by rw [hcs, prV_len, ← hnP]
  have hcc : ∀ j v, cs[j]? = some v → w.cell? ⟨g, j, none⟩ = some v := fun j v h => by
    have hj := (List.getElem?_eq_some_iff.1 h).1
    rw [hown.cellAt j (by omega), ← hcs]
    exact h
  have h1c : ∀ v ∈ cs, v.oneCell' = true := by rw [hcs]; exact prV_one P
  have hgl : g < w.heap.size := (hown.lt g rfl).2
  have hold : (Builtin.firstCells i0.size i (.slice (some ⟨g, 0, none⟩) i c)).run Tryz.prog w.drew = .ok (cs.take (i * 6)).toArray w.drew := by
    rw [hzs]
    exact run_firstCells_some w.drew 6 i ⟨g, 0, none⟩ i c (cs.take (i * 6)) (by rw [List.length_take]; omega) (fun j v hj => by
      rw [Addr.add_lit, Nat.zero_add]
      rw [List.getElem?_take] at hj
      split at hj
      · exact hcc j v hj
      · cases hj)
  have hkk : (c : Int) + 1 - (i : Int) = ((c + 1 - i : Nat) : Int) := by omega
  have hik : i + (c + 1 - i) = c + 1 := by omega
  obtain ⟨zc, hzc⟩ : ∃ zc : Array Value, zc = (Value.agg #[.string ⟨#[]⟩, .string ⟨#[]⟩, .bool false, .slice none 0 0, .bool false, .bool false]).cells := ⟨_, rfl⟩
  have hzcs : zc.size = 6 := by rw [hzc]; rfl
  have hrz : ∀ ty, (Builtin.append_ #[24, 3] ty #[.slice (some ⟨g, 0, none⟩) i c, .int .i64 ((c : Int) + 1 - (i : Int))]).run Tryz.prog w =
      .ok (.slice (some ⟨w.heap.size, 0, none⟩) (c + 1) (grownCap w (c + 1) c 32)) (w.drew.alloc (.cells ((cs.take (i * 6)).toArray ++ Builtin.zeroCells zc (c + 1 - i) ++ Builtin.zeroCells zc (grownCap w (c + 1) c 32 - (c + 1))) 32)) := fun ty => by
    have h := Lib.run_append_grow_zeros w 24 3 ty 32 i0 _ .i64 .i64 Tryz.underlying24 Tryz.underlying3 hi0 hz0 (some ⟨g, 0, none⟩) i c (cs.take (i * 6)) hold (c + 1 - i) (by omega) (by omega) (by omega) (by omega) (by rw [hzb]; omega) (by rw [hzb, hik]; exact growslice_fits hroom (by omega))
    rw [hik] at h
    rw [hkk, hzc]
    exact h
  have hGn : c + 1 ≤ grownCap w (c + 1) c 32 := grownCap_ge w _ _ _
  have hG63 := grownCap_le_maxLen w (c + 1) c 32 (by unfold maxLen; omega)
  obtain ⟨G, hG⟩ : ∃ G, G = grownCap w (c + 1) c 32 := ⟨_, rfl⟩
  rw [← hG] at hrz hGn hG63
  obtain ⟨ROW, hROW⟩ : ∃ ROW : Array Value, ROW = (cs.take (i * 6)).toArray ++ Builtin.zeroCells zc (c + 1 - i) ++ Builtin.zeroCells zc (G - (c + 1)) := ⟨_, rfl⟩
  have hRs : ROW.size = G * 6 := by
    rw [hROW]
    simp [Builtin.zeroCells, hzcs]
    omega
  have hRt : ROW.toList.take (i * 6) = cs.take (i * 6) := by
    rw [hROW]
    simp only [Array.toList_append, List.append_assoc]
    rw [List.take_append_of_le_length (by simp; omega), List.take_of_length_le (by simp; omega)]
  rw [← hROW] at hrz
  have hgN : g ≠ w.heap.size := by omega
  obtain ⟨N, hN⟩ : ∃ N, N = w.heap.size := ⟨_, rfl⟩
  have hW1 := own_new w.drew B 6 (c + 1) G 32 ROW hB hGn hG63 hRs
  rw [show w.drew.heap.size = N from hN.symm] at hW1
  obtain ⟨W1, hWe⟩ : ∃ W1, W1 = w.drew.alloc (.cells ROW 32) := ⟨_, rfl⟩
  rw [← hWe] at hrz hW1
  have hOb : ∀ b j v, b < w.heap.size → w.cell? ⟨b, j, none⟩ = some v → W1.cell? ⟨b, j, none⟩ = some v := fun b j v hb h => by rw [hWe, World.cell?_alloc_past (w := w.drew) _ b j hb]; exact h
  obtain ⟨xs0, hxs0⟩ : ∃ xs0, xs0 = ROW.toList.take ((c + 1) * 6) := ⟨_, rfl⟩
  rw [← hxs0] at hW1
  have hx0l : xs0.length = (c + 1) * 6 := hW1.1
  have hcpA : ∀ (W : World), (∀ y, W.cell? y = W1.cell? y) → (∀ y, W.frozen? y = W1.frozen? y) → ∀ ty dc, (Builtin.copy_ #[24, 24] ty #[.slice (some ⟨N, i * 6, none⟩) (c + 1 - i) dc, .slice (some ⟨vb, 0, none⟩) 1 1]).run Tryz.prog W = .ok (goInt 1) (W.setCells N (i * 6) (cellsV x)) := fun W hWc hWf ty dc => by
    have h := run_copy_wide (P := Tryz.prog) W 24 24 ty 32 6 N (i * 6) (c + 1 - i) dc ⟨vb, 0, none⟩ 1 1 (cellsV x) Tryz.underlying24 hsz (by rw [show Nat.min 1 (c + 1 - i) = 1 from Nat.min_eq_left (by omega)]; rfl)
      (fun j v hj => by
        rw [hWc]
        have := hx j v hj
        rw [WideShapes.add_plain] at this ⊢
        exact hOb vb _ v hvb this)
      (fun j hj => by
        have hj6 : j < 6 := hj
        rw [hWc, hW1.cellAt (i * 6 + j) (by omega), List.getElem?_eq_getElem (by omega)]; rfl) (fun j hj => by rw [hWf]; exact hW1.frozenAt _) (cellsV_one x)
    rw [show Nat.min 1 (c + 1 - i) = 1 from Nat.min_eq_left (by omega)] at h
    exact h
  obtain ⟨hW2, hg2⟩ := own_setCells (cellsV x) (i * 6) hW1
  have hdl : (cs.drop (i * 6)).length = (c - i) * 6 := by rw [List.length_drop, hcl]; omega
  have hx2l : (setL xs0 (i * 6) (cellsV x)).length = (c + 1) * 6 := by rw [setL_len, hx0l]
  have hcpB : ∀ (W : World), (∀ y, W.cell? y = (W1.setCells N (i * 6) (cellsV x)).cell? y) → (∀ y, W.frozen? y = (W1.setCells N (i * 6) (cellsV x)).frozen? y) → ∀ ty dc sc, (Builtin.copy_ #[24, 24] ty #[.slice (some ⟨N, (i + 1) * 6, none⟩) (c - i) dc, .slice (some ⟨g, i * 6, none⟩) (c - i) sc]).run Tryz.prog W = .ok (goInt (Nat.min (c - i) (c - i))) (W.setCells N ((i + 1) * 6) (cs.drop (i * 6))) := fun W hWc hWf ty dc sc =>
    run_copy_wide (P := Tryz.prog) W 24 24 ty 32 6 N ((i + 1) * 6) (c - i) dc ⟨g, i * 6, none⟩ (c - i) sc (cs.drop (i * 6)) Tryz.underlying24 hsz (by rw [hdl, show Nat.min (c - i) (c - i) = c - i from Nat.min_eq_left (Nat.le_refl _)])
      (fun j v hj => by
        rw [WideShapes.add_plain, hWc, World.cell?_setCells_out _ _ _ _ _ (fun h _ => absurd h (by rw [hN]; exact hgN))]
        exact hOb g _ v hgl (hcc (i * 6 + j) v (by rwa [List.getElem?_drop] at hj)))
      (fun j hj => by rw [hdl] at hj; rw [hWc, hW2.cellAt ((i + 1) * 6 + j) (by omega), List.getElem?_eq_getElem (by omega)]; rfl)
      (fun j hj => by rw [hWf]; exact hW2.frozenAt _) (fun v hv => h1c v (List.mem_of_mem_drop hv))
  obtain ⟨hW3, hg3⟩ := own_setCells (cs.drop (i * 6)) ((i + 1) * 6) hW2
  have hfinal : setL (setL xs0 (i * 6) (cellsV x)) ((i + 1) * 6) (cs.drop (i * 6)) = prV (P.take i ++ x :: P.drop i) := by
    have e0 : xs0.take (i * 6) = cs.take (i * 6) := by rw [hxs0, List.take_take, Nat.min_eq_left (by omega), hRt]
    have h := two_puts xs0 (cs.take (i * 6)) (cellsV x) (cs.drop (i * 6)) (i * 6) 6 e0 (by rw [List.length_take, hcl]; omega) rfl (by rw [hx0l, hdl]; omega)
    rw [show (i + 1) * 6 = i * 6 + 6 by omega, h, prV_ins, ← hcs]
  rw [hfinal] at hW3
  have hgw : w.grownBy W1 (some g) := by rw [hWe]; exact ⟨rfl, rfl, rfl, by simp, fun k hk _ => heap_alloc_old w.drew _ hk⟩
  have hgf : ∀ {a b c : World}, a.grownBy b (some g) → b.grownBy c (some N) → a.heap.size ≤ N → a.grownBy c (some g) := fun h k hN => ⟨k.os.trans h.os, k.tape.trans h.tape, k.output.trans h.output, Nat.le_trans h.size k.size, fun j hj hne => (k.block j (Nat.lt_of_lt_of_le hj h.size) (fun e => by injection e with e; omega)).trans (h.block j hj hne)⟩
  have hgall := hgf (hgf hgw hg2 (Nat.le_of_eq hN.symm)) hg3 (Nat.le_of_eq hN.symm)
  have HQ := Lib.hid (show ∀ w', Below w'.heap.size ((W1.setCells N (i * 6) (cellsV x)).setCells N ((i + 1) * 6) (cs.drop (i * 6))) w' → True from fun _ _ => trivial)
  have HF := Lib.hid (show ∀ w' : World, w'.ownsRow B 32 6 (.slice (some ⟨N, 0, none⟩) (c + 1) G) (c + 1) (prV (P.take i ++ x :: P.drop i)) → w.grownBy w' (some g) → InsP B g c i P x w (.returned (.slice (some ⟨N, 0, none⟩) (c + 1) G)) w' from fun w' h1 h2 => ⟨N, G, rfl, h1, h2⟩)
  generalize InsP B g c i P x w = Q at *
  have HW3 := Lib.hid (And.intro hW3 hgall)
  have hz1 : ¬ ((i : Int) = (c : Int)) := by omega
  have hb1 : (0 : Int) ≤ (i : Int) := by omega
  have hb2 : (i : Int) ≤ (c : Int) := by omega
  have hb3 : (c : Int) < (c : Int) + 1 := by omega
  have hw1 : IntKind.i64.wrap ((i : Int) + 1) = (i : Int) + 1 := by exact IntWalk.i64_in _ (by omega)
  have hw2 : IntKind.i64.wrap ((c : Int) + 1) = (c : Int) + 1 := by exact IntWalk.i64_in _ (by omega)
  have hw3 : IntKind.i64.wrap ((c : Int) + 1 - (i : Int)) = (c : Int) + 1 - (i : Int) := by exact IntWalk.i64_in _ (by omega)
  have hc1 : ¬ (c = i) := by omega
  have hG1 : ¬ (G = i) := by omega
  have hG2 : ¬ (G = i + 1) := by omega
  have hG3 : G ≤ 9223372036854775807 := by unfold maxLen at hG63; omega
  have hb4 : (i : Int) + 1 ≤ (c : Int) + 1 := by omega
  have hb5 : (0 : Int) ≤ (i : Int) + 1 := by omega
  have ht1 : ((i : Int) + 1).toNat = i + 1 := by omega
  have hb6 : (i : Int) ≤ (c : Int) + 1 := by omega
  clear hown hnP hcs hcl hcc h1c hold hkk hik hzc hzcs hROW hRs hRt hxs0 hx0l hx2l hfinal hW1 hW2 hW3 hg2 hg3 hgw hgf hgall hG hOb hdl hi0 hz0 hzs hzb hsz
  generalize cellsV x = cx at *
  subst hN
  subst hWe
  have hE1 : ∀ y, ((w.alloc (.cells ROW 32)).drew).cell? y = (w.drew.alloc (.cells ROW 32)).cell? y := fun y => rfl
  have hE2 : ∀ y, ((w.alloc (.cells ROW 32)).drew).frozen? y = (w.drew.alloc (.cells ROW 32)).frozen? y := fun y => rfl
  go_enter Tryz.func152, Tryz.ntmps152
  go_upto_region 11 with (first
    | (at_builtin; refine Lib.wpList_append_run _ rfl _ _ _ _ rfl _ _ rfl rfl _ _ (hrz _) ?_)
    | (at_builtin; refine wpList_copy_eq _ rfl _ _ 24 24 rfl _ _ rfl rfl (hcpA _ hE1 hE2 _ _) ?_))
  have hS : True := trivial
  refine wp_region_tail 8 (fun _ => True) (by kernel_rfl) (by decide) ?_
  refine wpAnyT_take 99 0 (v := ?_) (by kernel_rfl) rfl (by kernel_rfl) (fun _ _ _ h => h) (Or.inl ⟨by rfl, fun W hW => ?_⟩) (by with_reducible assumption) ?_
  rotate_left
  focus ((try dsimp only at hW); go_simp; try with_reducible rfl)
  refine wpAnyT_take 99 1 (v := ?_) (by kernel_rfl) rfl (by kernel_rfl) (fun _ _ _ h => h) (Or.inl ⟨by rfl, fun W hW => ?_⟩) (by with_reducible assumption) ?_
  rotate_left
  focus ((try dsimp only at hW); go_simp; try with_reducible rfl)
  refine wpAnyT_take 99 2 (v := ?_) (by kernel_rfl) rfl (by kernel_rfl) (fun _ _ _ h => h) (Or.inl ⟨by rfl, fun W hW => ?_⟩) (by with_reducible assumption) ?_
  rotate_left
  focus ((try dsimp only at hW); go_simp; try with_reducible rfl)
  refine wpAnyT_take 99 3 (v := ?_) (by kernel_rfl) rfl (by kernel_rfl) (fun _ _ _ h => h) (Or.inl ⟨by rfl, fun W hW => ?_⟩) (by with_reducible assumption) ?_
  rotate_left
  focus ((try dsimp only at hW); go_simp; try with_reducible rfl)
  refine wpAnyT_take 99 4 (v := ?_) (by kernel_rfl) rfl (by kernel_rfl) (fun _ _ _ h => h) (Or.inl ⟨by rfl, fun W hW => ?_⟩) (by with_reducible assumption) ?_
  rotate_left
  focus ((try dsimp only at hW); go_simp; try with_reducible rfl)
  refine wpAnyT_take 99 5 (v := ?_) (by kernel_rfl) rfl (by kernel_rfl) (fun _ _ _ h => h) (Or.inl ⟨by rfl, fun W hW => ?_⟩) (by with_reducible assumption) ?_
  rotate_left
  focus ((try dsimp only at hW); go_simp; try with_reducible rfl)
  refine wpAnyT_take 99 6 (v := ?_) (by kernel_rfl) rfl (by kernel_rfl) (fun _ _ _ h => h) (Or.inl ⟨by rfl, fun W hW => ?_⟩) (by with_reducible assumption) ?_
  rotate_left
  focus ((try dsimp only at hW); go_simp; try with_reducible rfl)
  refine wpAnyT_take 99 7 (v := ?_) (by kernel_rfl) rfl (by kernel_rfl) (fun _ _ _ h => h) (Or.inl ⟨by rfl, fun W hW => ?_⟩) (by with_reducible assumption) ?_
  rotate_left
  focus ((try dsimp only at hW); go_simp; try with_reducible rfl)
  simp only [Act.put, List.getElem_toArray, List.getElem_cons_zero, List.getElem_cons_succ, List.setIfInBounds_toArray, List.set_cons_zero, List.set_cons_succ]
  refine ⟨by kernel_rfl, ?_⟩
  simp only [List.drop_succ_cons, List.drop_zero]
  have hF1 : ∀ y, (((w.alloc (.cells ROW 32)).drew.setCells w.heap.size (i * 6) cx).drew).cell? y = ((w.drew.alloc (.cells ROW 32)).setCells w.heap.size (i * 6) cx).cell? y := fun y => rfl
  have hF2 : ∀ y, (((w.alloc (.cells ROW 32)).drew.setCells w.heap.size (i * 6) cx).drew).frozen? y = ((w.drew.alloc (.cells ROW 32)).setCells w.heap.size (i * 6) cx).frozen? y := fun y => rfl
  have hcp := hcpB _ hF1 hF2 3 (G - (i + 1)) (c - i)
  refine wpList_copy_eq _ rfl _ _ 24 24 rfl _ _ rfl rfl hcp ?_
  rw [setCells_drew]
  have HG := Lib.hid (HF.out _ (own_keep HW3.out.1 (Below.refl _ _).drew) ⟨HW3.out.2.os, HW3.out.2.tape, HW3.out.2.output, HW3.out.2.size, HW3.out.2.block⟩)
  clear hcpA hcpB hrz
  go_wp2_with fail
  exact HG.out
end Go.Proofs.YtiapondfajmkaaaGreatDoor
