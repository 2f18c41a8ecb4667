/- Shell states: a copy of one. -/
import Derived.Test.YtiapondfajmkaaaGreatDoorSvJ
namespace Go.Proofs.YtiapondfajmkaaaGreatDoor
open Go.RowKit

theorem Blk.set_ {w : World} {g : Nat} {t : TypeId} {cs : Array Value} (h : Blk w g t cs) (i : Nat) (u : Value) : Blk (w.setCell ⟨g, i, none⟩ u) g t (cs.setIfInBounds i u) := heap_setCell_same _ _ _ _ _ _ h
theorem Blk.far {w : World} {g : Nat} {t : TypeId} {cs : Array Value} (h : Blk w g t cs) {p : Addr} (hp : g ≠ p.block) (u : Value) : Blk (w.setCell p u) g t cs := (Below.heap_setCell w p u g hp).trans h
theorem grown_set (w : World) (k i : Nat) (v : Value) : w.grownBy (w.setCell ⟨k, i, none⟩ v) (some k) :=
  ⟨rfl, rfl, rfl, by simp [World.setCell], fun j _ hne => heap_setCell_other w ⟨k, i, none⟩ j v (fun e => hne (by rw [e]))⟩
theorem VO.far {B : Nat} {w : World} {v : Value} {P : List VE} {b : Nat} {T : TypeId} {cs : Array Value} (h : VO B w v P) (hb : Blk w b T cs) (hT : 32 ≠ T) (hT2 : T ≠ 9) (i : Nat) (u : Value) : VO B (w.setCell ⟨b, i, none⟩ u) v P :=
  ⟨h.own.kept (grown_set w b i u) (.inr fun e => own_blk h.own hb hT _ e rfl), fun p hp => (h.ls p hp).keepT (KeepT.setCell hb hT2 i u)⟩
theorem VO.blk {B : Nat} {w : World} {g c : Nat} {P : List VE} (h : VO B w (.slice (some ⟨g, 0, none⟩) P.length c) P) : ∃ cur, Blk w g 32 cur := by
  rcases h.own.2 with ⟨e, _⟩ | ⟨g', c', cur, e, _, hg, _⟩
  · cases e
  · injection e with e _ _
    injection e with e
    injection e with e _ _
    subst e
    exact ⟨cur, hg⟩
theorem prV_set (P : List VE) (i : Nat) (q : VE) (h : i < P.length) : ((((((prV P).set (i * 6) (.string q.1.nm)).set (i * 6 + 1) (.string q.1.vl)).set (i * 6 + 2) (.bool q.1.il)).set (i * 6 + 3) (sv q.2)).set (i * 6 + 4) (.bool q.1.ex)).set (i * 6 + 5) (.bool q.1.fx) = prV (P.set i q) := by
  induction P generalizing i with
  | nil => simp at h
  | cons b r ih =>
    cases i with
    | zero => rfl
    | succ i =>
      have := ih i (by simpa using h)
      rw [show (i + 1) * 6 = i * 6 + 6 by omega]
      show cellsV b ++ _ = cellsV b ++ prV (r.set i q)
      rw [← this]
      rfl
theorem prV_setL (P : List VE) (i : Nat) (s : SV) (h : i < P.length) : (prV P).set (i * 6 + 3) (sv s) = prV (P.set i (P[i].1, s)) := by
  induction P generalizing i with
  | nil => simp at h
  | cons b r ih =>
    cases i with
    | zero => rfl
    | succ i =>
      have hi : i < r.length := by simpa using h
      have := ih i hi
      rw [show (i + 1) * 6 + 3 = i * 6 + 3 + 6 by omega]
      show cellsV b ++ _ = cellsV b ++ prV (r.set i (r[i].1, s))
      rw [← this]
      rfl
/-- a list is exchanged -/
theorem VO.setList {B : Nat} {w : World} {g c n : Nat} {P : List VE} (hn : n = P.length) (h : VO B w (.slice (some ⟨g, 0, none⟩) n c) P) (i : Nat) (hi : i < P.length) (s : SV) (hs : SL w (sv s) P[i].1.ls) : VO B (w.setCell ⟨g, i * 6 + 3, none⟩ (sv s)) (.slice (some ⟨g, 0, none⟩) n c) (P.set i (P[i].1, s)) := by
  subst hn
  obtain ⟨cur, hb⟩ := h.blk
  refine ⟨?_, fun p hp => SL.keepT ?_ (KeepT.setCell hb (by decide) _ _)⟩
  · have := (h.own.stored (i * 6 + 3) (sv s)).1
    rw [prV_setL P i s hi] at this
    rw [List.length_set]
    exact this
  · rcases List.mem_or_eq_of_mem_set hp with hp | rfl
    · exact h.ls p hp
    · exact hs
theorem map_setList (P : List VE) (i : Nat) (hi : i < P.length) (s : SV) : (P.set i (P[i].1, s)).map Prod.fst = P.map Prod.fst := by
  rw [List.map_set]
  refine List.ext_getElem (by simp) fun j h1 h2 => ?_
  rw [List.getElem_set]
  split
  · rename_i e; subst e; simp
  · rfl
theorem own_base {w : World} {B B' n sz : Nat} {T : TypeId} {v : Value} {xs : List Value} (h : w.ownsRow B T sz v n xs) (hB : B' ≤ B) : w.ownsRow B' T sz v n xs := by
  refine ⟨h.1, ?_⟩
  rcases h.2 with h0 | ⟨g, c, cur, e, hg, h2⟩
  · exact .inl h0
  · exact .inr ⟨g, c, cur, e, Nat.le_trans hB hg, h2⟩
theorem VO.base {B B' : Nat} {w : World} {v : Value} {P : List VE} (h : VO B w v P) (hB : B' ≤ B) : VO B' w v P := ⟨own_base h.own hB, h.ls⟩
/-- a state is stored whole -/
def set9 (w : World) (b : Nat) (v0 v1 v2 v3 v4 v5 v6 v7 v8 : Value) : World :=
  ((((((((w.setCell ⟨b, 0, none⟩ v0).setCell ⟨b, 1, none⟩ v1).setCell ⟨b, 2, none⟩ v2).setCell ⟨b, 3, none⟩ v3).setCell ⟨b, 4, none⟩ v4).setCell ⟨b, 5, none⟩ v5).setCell ⟨b, 6, none⟩ v6).setCell ⟨b, 7, none⟩ v7).setCell ⟨b, 8, none⟩ v8
theorem set9_blk {w : World} {b : Nat} {T : TypeId} {u0 u1 u2 u3 u4 u5 u6 u7 u8 : Value} (h : Blk w b T #[u0, u1, u2, u3, u4, u5, u6, u7, u8]) (v0 v1 v2 v3 v4 v5 v6 v7 v8 : Value) : Blk (set9 w b v0 v1 v2 v3 v4 v5 v6 v7 v8) b T #[v0, v1, v2, v3, v4, v5, v6, v7, v8] :=
by
  have h1 := ((((((((h.set_ 0 v0).set_ 1 v1).set_ 2 v2).set_ 3 v3).set_ 4 v4).set_ 5 v5).set_ 6 v6).set_ 7 v7).set_ 8 v8
  simp only [List.setIfInBounds_toArray, List.set_cons_zero, List.set_cons_succ] at h1
  exact h1
theorem set9_vo {B : Nat} {w : World} {v : Value} {P : List VE} {b : Nat} {T : TypeId} {cs : Array Value} (h : VO B w v P) (hb : Blk w b T cs) (hT : 32 ≠ T) (hT2 : T ≠ 9) (v0 v1 v2 v3 v4 v5 v6 v7 v8 : Value) : VO B (set9 w b v0 v1 v2 v3 v4 v5 v6 v7 v8) v P := by
  have b0 := hb.set_ 0 v0
  have b1 := b0.set_ 1 v1
  have b2 := b1.set_ 2 v2
  have b3 := b2.set_ 3 v3
  have b4 := b3.set_ 4 v4
  have b5 := b4.set_ 5 v5
  have b6 := b5.set_ 6 v6
  have b7 := b6.set_ 7 v7
  exact ((((((((h.far hb hT hT2 0 v0).far b0 hT hT2 1 v1).far b1 hT hT2 2 v2).far b2 hT hT2 3 v3).far b3 hT hT2 4 v4).far b4 hT hT2 5 v5).far b5 hT hT2 6 v6).far b6 hT hT2 7 v7).far b7 hT hT2 8 v8
theorem set9_keepT {w : World} {b : Nat} {T : TypeId} {cs : Array Value} (hb : Blk w b T cs) (hT2 : T ≠ 9) (v0 v1 v2 v3 v4 v5 v6 v7 v8 : Value) : KeepT w (set9 w b v0 v1 v2 v3 v4 v5 v6 v7 v8) := by
  have b0 := hb.set_ 0 v0
  have b1 := b0.set_ 1 v1
  have b2 := b1.set_ 2 v2
  have b3 := b2.set_ 3 v3
  have b4 := b3.set_ 4 v4
  have b5 := b4.set_ 5 v5
  have b6 := b5.set_ 6 v6
  have b7 := b6.set_ 7 v7
  exact ((((((((KeepT.setCell hb hT2 0 v0).trans (KeepT.setCell b0 hT2 1 v1)).trans (KeepT.setCell b1 hT2 2 v2)).trans (KeepT.setCell b2 hT2 3 v3)).trans (KeepT.setCell b3 hT2 4 v4)).trans (KeepT.setCell b4 hT2 5 v5)).trans (KeepT.setCell b5 hT2 6 v6)).trans (KeepT.setCell b6 hT2 7 v7)).trans (KeepT.setCell b7 hT2 8 v8)
theorem set9_below {B : Nat} {w0 w : World} {b : Nat} (h : Below B w0 w) (hB : B ≤ b) (v0 v1 v2 v3 v4 v5 v6 v7 v8 : Value) : Below B w0 (set9 w b v0 v1 v2 v3 v4 v5 v6 v7 v8) :=
  ((((((((h.setCell hB v0).setCell hB v1).setCell hB v2).setCell hB v3).setCell hB v4).setCell hB v5).setCell hB v6).setCell hB v7).setCell hB v8
theorem set9_heap (w : World) (b : Nat) (v0 v1 v2 v3 v4 v5 v6 v7 v8 : Value) (k : Nat) (h : k ≠ b) : (set9 w b v0 v1 v2 v3 v4 v5 v6 v7 v8).heap[k]? = w.heap[k]? := by
  unfold set9
  repeat rw [Below.heap_setCell _ _ _ k (by exact h)]
/-- nine cells of a block -/
theorem Blk.nine {w : World} {b : Nat} {T : TypeId} {u0 u1 u2 u3 u4 u5 u6 u7 u8 : Value} (h : Blk w b T #[u0, u1, u2, u3, u4, u5, u6, u7, u8]) :
    w.cell? ⟨b, 0, none⟩ = some u0 ∧ w.cell? ⟨b, 1, none⟩ = some u1 ∧ w.cell? ⟨b, 2, none⟩ = some u2 ∧ w.cell? ⟨b, 3, none⟩ = some u3 ∧ w.cell? ⟨b, 4, none⟩ = some u4 ∧ w.cell? ⟨b, 5, none⟩ = some u5 ∧ w.cell? ⟨b, 6, none⟩ = some u6 ∧ w.cell? ⟨b, 7, none⟩ = some u7 ∧ w.cell? ⟨b, 8, none⟩ = some u8 ∧ ∀ j, w.frozen? ⟨b, j, none⟩ = false :=
  ⟨h.cell.1 0, h.cell.1 1, h.cell.1 2, h.cell.1 3, h.cell.1 4, h.cell.1 5, h.cell.1 6, h.cell.1 7, h.cell.1 8, h.cell.2⟩
def CopyP (S : ShV) (w : World) (e : Ending) (w' : World) : Prop :=
  ∃ (A V : SV) (P : List VE), e = .returned (.agg (cellsS S ⟨A, V⟩)) ∧ P.map Prod.fst = S.vs ∧ SL w' (sv A) S.ar ∧ VO w.heap.size w' (sv V) P ∧ Below w.heap.size w w'
set_option maxRecDepth 100000 in
set_option maxHeartbeats 3200000 in
theorem copyState_any (S : ShV) (p : ShP) (w : World) (hm : ShM w S p) (hs : Small S) : Calls Tryz.prog 55 #[.agg (cellsS S p)] w (CopyP S w) := by
  obtain ⟨⟨arA, arn, arc⟩, ⟨vA, vn, vc⟩⟩ := p
  obtain rfl := SL.len hm.ar
  obtain rfl := (VL.at hm.vs).1
  obtain ⟨Q, hQ⟩ : ∃ Q, CopyP S w = Q := ⟨_, rfl⟩
  rw [hQ]
  have HQ := Lib.hid (fun e w' (h : CopyP S w e w') => (show Q e w' from hQ ▸ h))
  have HAR : Hid (SL w (.slice arA S.ar.length arc) S.ar) := Lib.hid hm.ar
  have HVS : Hid (VL w (.slice vA S.vs.length vc) S.vs) := Lib.hid hm.vs
  have HS := Lib.hid hs
  obtain ⟨bx, hbx⟩ : ∃ bx, bx = w.heap.size := ⟨_, rfl⟩
  have HBXE := Lib.hid hbx
  clear hQ hm hs hbx
  show Calls _ _ #[.agg #[.string S.nm, .slice arA S.ar.length arc, .slice vA S.vs.length vc, .slice none 0 0, .slice none 0 0, .int .i64 S.op, .int .i64 S.st, .int .i64 S.msk, .string S.dr]] w Q
  go_enter Tryz.func55, Tryz.ntmps55
  go_upto_region 1 with fail
  obtain ⟨W0, hW0⟩ : ∃ W0, W0 = (w.alloc (.cells #[.string S.nm, .slice arA S.ar.length arc, .slice vA S.vs.length vc, .slice none 0 0, .slice none 0 0, .int .i64 S.op, .int .i64 S.st, .int .i64 S.msk, .string S.dr] 28)).alloc (.cells #[.string ⟨#[]⟩, .slice none 0 0, .slice none 0 0, .slice none 0 0, .slice none 0 0, .int .i64 0, .int .i64 0, .int .i64 0, .string ⟨#[]⟩] 28) := ⟨_, rfl⟩
  have HX0 : Hid (Blk W0 bx 28 #[.string S.nm, .slice arA S.ar.length arc, .slice vA S.vs.length vc, .slice none 0 0, .slice none 0 0, .int .i64 S.op, .int .i64 S.st, .int .i64 S.msk, .string S.dr]) := Lib.hid (by rw [hW0]; exact (Blk.new w _ _ HBXE.out.symm).alloc _)
  have HY0 : Hid (Blk W0 (bx + 1) 28 #[.string ⟨#[]⟩, .slice none 0 0, .slice none 0 0, .slice none 0 0, .slice none 0 0, .int .i64 0, .int .i64 0, .int .i64 0, .string ⟨#[]⟩]) := Lib.hid (by rw [hW0]; exact Blk.new _ _ _ (by rw [HBXE.out]; simp))
  have HB0 : Hid (Below w.heap.size w W0) := Lib.hid (by rw [hW0]; exact ((Below.refl _ w).alloc (Nat.le_refl _) _).alloc (by simp) _)
  rw [← HBXE.out, ← hW0]
  clear hW0
  have k1 := HX0.out.cell.1 1
  simp at k1
  have HC1 := Lib.hid (clone_any S.ar _ W0 (HAR.out.keep HB0.out) (by have := HS.out.ar; omega))
  go_upto_region 2 with (go_at_call 19; refine HC1.out.mono ?_; rintro e w1 ⟨A1, c1, rfl, ho1, hb1⟩; have HX1 := Lib.hid (HX0.out.keep hb1); have HY1 := Lib.hid (HY0.out.keep hb1); have k1 := HX1.out.cell.1 1; have f1 := HX1.out.cell.2 1; simp at k1; have HA1 := Lib.hid (SL.of_own ho1); have HB1 := Lib.hid (HB0.out.trans (hb1.mono HB0.out.size)); clear ho1 hb1)
  obtain ⟨W2, hW2⟩ : ∃ W2, W2 = w1.setCell ⟨bx, 1, none⟩ (.slice A1 S.ar.length c1) := ⟨_, rfl⟩
  have HX2 : Hid (Blk W2 bx 28 #[.string S.nm, .slice A1 S.ar.length c1, .slice vA S.vs.length vc, .slice none 0 0, .slice none 0 0, .int .i64 S.op, .int .i64 S.st, .int .i64 S.msk, .string S.dr]) := Lib.hid (by rw [hW2]; exact HX1.out.set_ 1 _)
  have HY2 : Hid (Blk W2 (bx + 1) 28 #[.string ⟨#[]⟩, .slice none 0 0, .slice none 0 0, .slice none 0 0, .slice none 0 0, .int .i64 0, .int .i64 0, .int .i64 0, .string ⟨#[]⟩]) := Lib.hid (by rw [hW2]; exact HY1.out.far (by simp) _)
  have HA2 := Lib.hid (HA1.out.keepT (show KeepT w1 W2 by rw [hW2]; exact KeepT.setCell HX1.out (by decide) _ _))
  have HB2 : Hid (Below w.heap.size w W2) := Lib.hid (by rw [hW2]; exact HB1.out.setCell (by rw [← HBXE.out]; exact Nat.le_refl _) _)
  rw [← hW2]
  clear hW2 k1 f1 HX1 HY1 HA1 HB1 HX0 HY0 HB0 HC1
  have HC3 := Lib.hid (cloneV_any S.vs vA S.vs.length vc W2 (HVS.out.keep HB2.out) HS.out.vs)
  have k2 := HX2.out.cell.1 2
  simp at k2
  go_upto_region 3 with (go_at_call 86; refine HC3.out.mono ?_; rintro e w3 ⟨P, A3, c3, rfl, hP3, ho3, hb3⟩; have HX3 := Lib.hid (HX2.out.keep hb3); have HY3 := Lib.hid (HY2.out.keep hb3); have k2 := HX3.out.cell.1 2; have f2 := HX3.out.cell.2 2; simp at k2; have HA3 := Lib.hid (HA2.out.keep hb3); have HB3 := Lib.hid (HB2.out.trans (hb3.mono HB2.out.size)); have HO3 := Lib.hid (ho3.base HB2.out.size); have HP3 := Lib.hid hP3; clear ho3 hb3 hP3)
  obtain ⟨W4, hW4⟩ : ∃ W4, W4 = w3.setCell ⟨bx, 2, none⟩ (.slice A3 P.length c3) := ⟨_, rfl⟩
  have HX4 : Hid (Blk W4 bx 28 #[.string S.nm, .slice A1 S.ar.length c1, .slice A3 P.length c3, .slice none 0 0, .slice none 0 0, .int .i64 S.op, .int .i64 S.st, .int .i64 S.msk, .string S.dr]) := Lib.hid (by rw [hW4]; exact HX3.out.set_ 2 _)
  have HY4 : Hid (Blk W4 (bx + 1) 28 #[.string ⟨#[]⟩, .slice none 0 0, .slice none 0 0, .slice none 0 0, .slice none 0 0, .int .i64 0, .int .i64 0, .int .i64 0, .string ⟨#[]⟩]) := Lib.hid (by rw [hW4]; exact HY3.out.far (by simp) _)
  have HA4 := Lib.hid (HA3.out.keepT (show KeepT w3 W4 by rw [hW4]; exact KeepT.setCell HX3.out (by decide) _ _))
  have HB4 : Hid (Below w.heap.size w W4) := Lib.hid (by rw [hW4]; exact HB3.out.setCell (by rw [← HBXE.out]; exact Nat.le_refl _) _)
  have HO4 : Hid (VO w.heap.size W4 (.slice A3 P.length c3) P) := Lib.hid (by rw [hW4]; exact HO3.out.far HX3.out (by decide) (by decide) _ _)
  have hPn : P.length ≤ 2000 := by
    have := HS.out.vs
    rw [← HP3.out, List.length_map] at this
    exact this
  rw [← hW4]
  clear hW4 k2 f2 HX3 HY3 HA3 HB3 HO3 HX2 HY2 HA2 HB2 HC3 HVS HAR
  have k2 := HX4.out.cell.1 2
  simp at k2
  go_wp2_with fail
  obtain ⟨n, hn⟩ : ∃ n, n = P.length := ⟨_, rfl⟩
  have HN := Lib.hid hn
  rw [← hn] at HX4 HO4 hPn ⊢
  go_loopw [15] (fun s15 wr => ∃ (k : Nat) (R : List VE), s15 = .int .i64 (k : Int) ∧ Hid (k ≤ n) ∧ Hid (R.length = n ∧ R.map Prod.fst = S.vs) ∧ Hid (Blk wr bx 28 #[.string S.nm, .slice A1 S.ar.length c1, .slice A3 n c3, .slice none 0 0, .slice none 0 0, .int .i64 S.op, .int .i64 S.st, .int .i64 S.msk, .string S.dr]) ∧ Hid (Blk wr (bx + 1) 28 #[.string ⟨#[]⟩, .slice none 0 0, .slice none 0 0, .slice none 0 0, .slice none 0 0, .int .i64 0, .int .i64 0, .int .i64 0, .string ⟨#[]⟩]) ∧ Hid (SL wr (.slice A1 S.ar.length c1) S.ar) ∧ Hid (VO w.heap.size wr (.slice A3 n c3) R) ∧ Hid (Below w.heap.size w wr)) (fun s15 _ => n - (intOf s15).toNat)
  case atStart => exact ⟨0, P, rfl, Lib.hid (Nat.zero_le _), Lib.hid ⟨hn.symm, HP3.out⟩, HX4, HY4, HA4, HO4, HB4⟩
  case round =>
    clear HX4 HY4 HA4 HO4 HB4 k2 hn
    obtain ⟨k, R, rfl, HK, HR, HX, HY, HA, HO, HB⟩ := hrel
    by_cases hlt : k < n
    · have hltz : (k : Int) < (n : Int) := by omega
      have hk0 : (0 : Int) ≤ (k : Int) := by omega
      have hk1 : IntKind.i64.wrap ((k : Int) + 1) = ((k + 1 : Nat) : Int) := IntWalk.i64_in _ (by omega)
      have hRk : k < R.length := by rw [HR.out.1]; exact hlt
      obtain ⟨g, rfl⟩ : ∃ g, A3 = some ⟨g, 0, none⟩ := by
        rcases HO.out.own.2 with ⟨_, h0⟩ | ⟨g, c, cur, e, _⟩
        · omega
        · injection e with e _ _
          exact ⟨g, e⟩
      have hgl : g < wr.heap.size := (HO.out.own.lt g rfl).2
      have hOwn : wr.ownsRow w.heap.size 32 6 (.slice (some ⟨g, 0, none⟩) n c3) n (prV R) := by
        have := HO.out.own
        rw [HR.out.1] at this
        exact this
      have c3k : wr.cell? ⟨g, k * 6 + 3, none⟩ = some (sv R[k].2) := (hOwn.cellAt (k * 6 + 3) (by omega)).trans (prV_at R k hRk).2.2.2.1
      have hsl := HO.out.ls R[k] (List.getElem_mem hRk)
      have hll : R[k].1.ls.length ≤ 2000 := HS.out.ls _ (by rw [← HR.out.2]; exact List.mem_map_of_mem (List.getElem_mem hRk))
      obtain ⟨x, hx⟩ : ∃ x, x = R[k] := ⟨_, rfl⟩
      have HXE := Lib.hid hx
      rw [← hx] at c3k hsl hll
      obtain ⟨xv, lA, ln, lc⟩ := x
      simp only [] at c3k hsl hll
      unfold sv at c3k
      obtain rfl := SL.len hsl
      have kbx := HX.out.cell.1 2
      simp at kbx
      have HSL := Lib.hid hsl
      have HOWN := Lib.hid hOwn
      clear hsl hx hOwn HK
      go_upto_region 6 with fail
      have hS : wr.drew.cell? ⟨bx, 2, none⟩ = some (.slice (some ⟨g, 0, none⟩) n c3) ∧ wr.drew.cell? ⟨g, k * 6 + 3, none⟩ = some (.slice lA xv.ls.length lc) := ⟨kbx, c3k⟩
      refine wp_region_tail 12 (fun W => W.cell? ⟨bx, 2, none⟩ = some (.slice (some ⟨g, 0, none⟩) n c3) ∧ W.cell? ⟨g, k * 6 + 3, none⟩ = some (.slice lA xv.ls.length lc)) (by kernel_rfl) (by decide) ?_
      refine wpAnyT_take 99 0 (v := ?_) (by kernel_rfl) rfl (by kernel_rfl) (fun _ _ _ h => h) (Or.inl ⟨by rfl, fun W hW => ?_⟩) (by with_reducible assumption) ?_
      rotate_left
      focus ((try dsimp only at hW); go_simp; try with_reducible rfl)
      refine wpAnyT_take 99 1 (v := ?_) (by kernel_rfl) rfl (by kernel_rfl) (fun _ _ _ h => h) (Or.inl ⟨by rfl, fun W hW => ?_⟩) (by with_reducible assumption) ?_
      rotate_left
      focus ((try dsimp only at hW); go_simp; try with_reducible rfl)
      refine wpAnyT_take 99 2 (v := ?_) (by kernel_rfl) rfl (by kernel_rfl) (fun _ _ _ h => h) (Or.inl ⟨by rfl, fun W hW => ?_⟩) (by with_reducible assumption) ?_
      rotate_left
      focus ((try dsimp only at hW); go_simp; try with_reducible rfl)
      refine wpAnyT_take 99 3 (v := ?_) (by kernel_rfl) rfl (by kernel_rfl) (fun _ _ _ h => h) (Or.inl ⟨by rfl, fun W hW => ?_⟩) (by with_reducible assumption) ?_
      rotate_left
      focus ((try dsimp only at hW); go_simp; try with_reducible rfl)
      refine wpAnyT_take 99 4 (v := ?_) (by kernel_rfl) rfl (by kernel_rfl) (fun _ _ _ h => h) (Or.inl ⟨by rfl, fun W hW => ?_⟩) (by with_reducible assumption) ?_
      rotate_left
      focus ((try dsimp only at hW); go_simp; try with_reducible rfl)
      refine wpAnyT_take 99 5 (v := ?_) (by kernel_rfl) rfl (by kernel_rfl) (fun _ _ _ h => h) (Or.inl ⟨by rfl, fun W hW => ?_⟩) (by with_reducible assumption) ?_
      rotate_left
      focus ((try dsimp only at hW); go_simp; try with_reducible rfl)
      refine wpAnyT_take 99 6 (v := ?_) (by kernel_rfl) rfl (by kernel_rfl) (fun _ _ _ h => h) (Or.inl ⟨by rfl, fun W hW => ?_⟩) (by with_reducible assumption) ?_
      rotate_left
      focus ((try dsimp only at hW); go_simp; try with_reducible rfl)
      refine wpAnyT_take 99 7 (v := ?_) (by kernel_rfl) rfl (by kernel_rfl) (fun _ _ _ h => h) (Or.inl ⟨by rfl, fun W hW => ?_⟩) (by with_reducible assumption) ?_
      rotate_left
      focus ((try dsimp only at hW); go_simp; try with_reducible rfl)
      refine wpAnyT_take 99 8 (v := ?_) (by kernel_rfl) rfl (by kernel_rfl) (fun _ _ _ h => h) (Or.inl ⟨by rfl, fun W hW => ?_⟩) (by with_reducible assumption) ?_
      rotate_left
      focus ((try dsimp only at hW); go_simp; try with_reducible rfl)
      simp only [Act.put, List.getElem_toArray, List.getElem_cons_zero, List.getElem_cons_succ, List.setIfInBounds_toArray, List.set_cons_zero, List.set_cons_succ]
      refine wpAnyT_one 9 (by kernel_rfl) (by decide) ?_
      refine wpOp_at rfl rfl (fun K hK => ?_)
      go_simp
      refine (clone_any xv.ls _ _ (HSL.out.keep (Below.refl _ wr).drew) (by omega)).mono ?_
      rintro e w2 ⟨A5, c5, rfl, ho5, hb5⟩
      have hb6 : Below wr.heap.size wr w2 := (Below.refl _ wr).drew.trans hb5
      have HX2 := Lib.hid (HX.out.keep hb6)
      have HY2 := Lib.hid (HY.out.keep hb6)
      have HA2 := Lib.hid (HA.out.keep hb6)
      have HO2 := Lib.hid (HO.out.keep hb6)
      have HB2 := Lib.hid (HB.out.trans (hb6.mono HB.out.size))
      have HOWN2 := Lib.hid (own_keep HOWN.out hb6)
      have HL5 := Lib.hid (SL.of_own ho5)
      have hS2 : w2.cell? ⟨bx, 2, none⟩ = some (.slice (some ⟨g, 0, none⟩) n c3) ∧ w2.cell? ⟨g, k * 6 + 3, none⟩ = some (.slice lA xv.ls.length lc) := ⟨HX2.out.cell.1 2, (hb6.cell (p := ⟨g, k * 6 + 3, none⟩) hgl).trans c3k⟩
      clear hS hb6 hb5 ho5 HX HY HA HO HB HOWN HSL c3k kbx
      refine hK.out _ _ ⟨hS2, ?_⟩
      clear hK K
      refine wpAnyT_take 99 10 (v := ?_) (by kernel_rfl) rfl (by kernel_rfl) (fun _ _ _ h => h) (Or.inl ⟨by rfl, fun W hW => ?_⟩) (by with_reducible assumption) ?_
      rotate_left
      focus ((try dsimp only at hW); go_simp; try with_reducible rfl)
      refine wpAnyT_take 99 11 (v := ?_) (by kernel_rfl) rfl (by kernel_rfl) (fun _ _ _ h => h) (Or.inl ⟨by rfl, fun W hW => ?_⟩) (by with_reducible assumption) ?_
      rotate_left
      focus ((try dsimp only at hW); go_simp; try with_reducible rfl)
      simp only [Act.put, List.getElem_toArray, List.getElem_cons_zero, List.getElem_cons_succ, List.setIfInBounds_toArray, List.set_cons_zero, List.set_cons_succ]
      refine ⟨by kernel_rfl, ?_⟩
      simp only [List.drop_succ_cons, List.drop_zero]
      have q3 := hS2.2
      have qf := HOWN2.out.frozenAt (k * 6 + 3)
      clear hS2
      go_wp2_with fail
      have hgx : g ≠ bx := own_blk HOWN2.out HX2.out (by decide) g rfl
      have hgy : g ≠ bx + 1 := own_blk HOWN2.out HY2.out (by decide) g rfl
      have hgb : w.heap.size ≤ g := (HOWN2.out.lt g rfl).1
      have hsx : (R[k].1, ((A5, xv.ls.length, c5) : SV)) = (xv, (A5, xv.ls.length, c5)) := by rw [← HXE.out]
      obtain ⟨cur, hbk⟩ : ∃ cur, Blk w2 g 32 cur := by
        rcases HOWN2.out.2 with ⟨e, _⟩ | ⟨g', c', cur, e, _, hg, _⟩
        · cases e
        · injection e with e _ _
          injection e with e
          injection e with e _ _
          subst e
          exact ⟨cur, hg⟩
      refine ⟨⟨k + 1, R.set k (R[k].1, (A5, xv.ls.length, c5)), by simp, Lib.hid hlt, Lib.hid ⟨by rw [List.length_set]; exact HR.out.1, by rw [map_setList]; exact HR.out.2⟩, Lib.hid (HX2.out.far (by exact fun e => hgx e.symm) _), Lib.hid (HY2.out.far (by exact fun e => hgy e.symm) _), Lib.hid (HA2.out.keepT (KeepT.setCell hbk (by decide) _ _)), Lib.hid (HO2.out.setList HR.out.1.symm k hRk (A5, xv.ls.length, c5) (by rw [← HXE.out]; exact HL5.out)), Lib.hid (HB2.out.setCell hgb _)⟩, ?_⟩
      simp [intOf]
      omega
    · have hltz : ¬ (k : Int) < (n : Int) := by omega
      have k3 := HX.out.cell.1 3
      have k4 := HX.out.cell.1 4
      have f3 := HX.out.cell.2 3
      have f4 := HX.out.cell.2 4
      simp at k3 k4
      clear HK
      go_upto_region 8 with fail
      go_region_with (first
        | (go_at_call 87; refine (fclone_any _).mono ?_; rintro e w2 ⟨rfl, rfl⟩)
        | (go_at_call 88; refine (tclone_any _).mono ?_; rintro e w2 ⟨rfl, rfl⟩))
      all_goals
        obtain ⟨W5, hW5⟩ : ∃ W5, W5 = ((wr.setCell ⟨bx, 3, none⟩ (.slice none 0 0)).setCell ⟨bx, 4, none⟩ (.slice none 0 0)).drew := ⟨_, rfl⟩
        have hx5 : Blk W5 bx 28 #[.string S.nm, .slice A1 S.ar.length c1, .slice A3 n c3, .slice none 0 0, .slice none 0 0, .int .i64 S.op, .int .i64 S.st, .int .i64 S.msk, .string S.dr] := by rw [hW5]; exact (HX.out.set_ 3 _).set_ 4 _
        have hy5 : Blk W5 (bx + 1) 28 #[.string ⟨#[]⟩, .slice none 0 0, .slice none 0 0, .slice none 0 0, .slice none 0 0, .int .i64 0, .int .i64 0, .int .i64 0, .string ⟨#[]⟩] := by rw [hW5]; exact (HY.out.far (by simp) _).far (by simp) _
        have ho5 : VO w.heap.size W5 (.slice A3 n c3) R := by rw [hW5]; exact (((HO.out.far HX.out (by decide) (by decide) 3 _).far (HX.out.set_ 3 _) (by decide) (by decide) 4 _).keep (Below.refl _ _).drew)
        have ha5 : SL W5 (.slice A1 S.ar.length c1) S.ar := by rw [hW5]; exact (HA.out.keepT ((KeepT.setCell HX.out (by decide) 3 _).trans (KeepT.setCell (HX.out.set_ 3 _) (by decide) 4 _))).keep (Below.refl _ _).drew
        have hb5 : Below w.heap.size w W5 := by rw [hW5]; exact ((HB.out.setCell (by rw [← HBXE.out]; exact Nat.le_refl _) _).setCell (by rw [← HBXE.out]; exact Nat.le_refl _) _).drew
        rw [← hW5]
        obtain ⟨x0, x1, x2, x3, x4, x5, x6, x7, x8, xf⟩ := hx5.nine
        obtain ⟨y0, y1, y2, y3, y4, y5, y6, y7, y8, yf⟩ := hy5.nine
        have HF := Lib.hid (HQ.out _ (set9 W5 (bx + 1) (.string S.nm) (.slice A1 S.ar.length c1) (.slice A3 n c3) (.slice none 0 0) (.slice none 0 0) (.int .i64 S.op) (.int .i64 S.st) (.int .i64 S.msk) (.string S.dr)) (show CopyP S w (.returned (.agg #[.string S.nm, .slice A1 S.ar.length c1, .slice A3 n c3, .slice none 0 0, .slice none 0 0, .int .i64 S.op, .int .i64 S.st, .int .i64 S.msk, .string S.dr])) _ from ⟨(A1, S.ar.length, c1), (A3, n, c3), R, rfl, HR.out.2, ha5.keepT (set9_keepT hy5 (by decide) _ _ _ _ _ _ _ _ _), set9_vo ho5 hy5 (by decide) (by decide) _ _ _ _ _ _ _ _ _, set9_below hb5 (by rw [← HBXE.out]; exact Nat.le_succ _) _ _ _ _ _ _ _ _ _⟩))
        have HE := set9_blk hy5 (.string S.nm) (.slice A1 S.ar.length c1) (.slice A3 n c3) (.slice none 0 0) (.slice none 0 0) (.int .i64 S.op) (.int .i64 S.st) (.int .i64 S.msk) (.string S.dr)
        obtain ⟨W6, hW6⟩ : ∃ W6, W6 = set9 W5 (bx + 1) (.string S.nm) (.slice A1 S.ar.length c1) (.slice A3 n c3) (.slice none 0 0) (.slice none 0 0) (.int .i64 S.op) (.int .i64 S.st) (.int .i64 S.msk) (.string S.dr) := ⟨_, rfl⟩
        rw [← hW6] at HF HE
        obtain ⟨z0, z1, z2, z3, z4, z5, z6, z7, z8, _⟩ := HE.nine
        unfold set9 at hW6
        have HW6 := Lib.hid hW6
        clear hW5 hx5 hy5 ho5 ha5 hb5 HX HY HA HO HB k3 k4 f3 f4 hW6 HE
        go_wp2_with fail
        rw [← HW6.out]
        exact bodyPost_ret (v := .agg #[.string S.nm, .slice A1 S.ar.length c1, .slice A3 n c3, .slice none 0 0, .slice none 0 0, .int .i64 S.op, .int .i64 S.st, .int .i64 S.msk, .string S.dr]) (by simp [results, Tryz.results55, go_sem, z0, z1, z2, z3, z4, z5, z6, z7, z8]) rfl HF.out
end Go.Proofs.YtiapondfajmkaaaGreatDoor
