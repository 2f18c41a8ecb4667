/- TopMerged: the closure of diff: a hunk is added, the places go on. -/
import Derived.Test.YtpnnojepbmpfiaaDoorTmB
import Derived.Test.YtpnnojepbmpfiaaDoorTail
import Derived.Deep.DeepCutAuto
namespace Go.Proofs.YtpnnojepbmpfiaaDoor
open Go.RowKit

/-- the hunk that comes, if one comes -/
def addH (a b : List ByteArray) (f t p q : Nat) : List HK := if f < p ∨ t < q then [⟨f, t, (a.drop f).take (p - f), (b.drop t).take (q - t)⟩] else []
/-- what the closure reads -/
theorem sev {w1 W : World} {h0 g : Nat} {vo va vb : Value} {f t p q : Int} (hb : Below w1.heap.size w1 W) (h : (h0 + 5 ≤ w1.heap.size ∧ g < w1.heap.size) ∧ w1.cell? ⟨h0 + 2, 0, none⟩ = some vo ∧ w1.cell? ⟨h0 + 3, 0, none⟩ = some (.int .i64 f) ∧ w1.cell? ⟨h0 + 4, 0, none⟩ = some (.int .i64 t) ∧ w1.cell? ⟨h0, 0, none⟩ = some va ∧ w1.cell? ⟨h0 + 1, 0, none⟩ = some vb ∧ w1.cell? ⟨g, 0, none⟩ = some (.int .i64 p) ∧ w1.cell? ⟨g, 1, none⟩ = some (.int .i64 q)) :
    W.cell? ⟨h0 + 2, 0, none⟩ = some vo ∧ W.cell? ⟨h0 + 3, 0, none⟩ = some (.int .i64 f) ∧ W.cell? ⟨h0 + 4, 0, none⟩ = some (.int .i64 t) ∧ W.cell? ⟨h0, 0, none⟩ = some va ∧ W.cell? ⟨h0 + 1, 0, none⟩ = some vb ∧ W.cell? ⟨g, 0, none⟩ = some (.int .i64 p) ∧ W.cell? ⟨g, 1, none⟩ = some (.int .i64 q) := by
  obtain ⟨⟨l1, l2⟩, h1, h2, h3, h4, h5, h6, h7⟩ := h
  have hc : ∀ k i, k < w1.heap.size → W.cell? ⟨k, i, none⟩ = w1.cell? ⟨k, i, none⟩ := fun k i hk => hb.cell (p := ⟨k, i, none⟩) hk
  exact ⟨(hc _ _ (by omega)).trans h1, (hc _ _ (by omega)).trans h2, (hc _ _ (by omega)).trans h3, (hc _ _ (by omega)).trans h4, (hc _ _ (by omega)).trans h5, (hc _ _ (by omega)).trans h6, (hc _ _ (by omega)).trans h7⟩
theorem new_two (w : World) (u v : Value) (T : TypeId) : (w.alloc (.cells #[u, v] T)).cell? ⟨w.heap.size, 0, none⟩ = some u ∧ (w.alloc (.cells #[u, v] T)).cell? ⟨w.heap.size, 1, none⟩ = some v :=
  ⟨(cell_of_row _ w.heap.size 0 _ _ _ (heap_alloc_new w _)).trans rfl, (cell_of_row _ w.heap.size 1 _ _ _ (heap_alloc_new w _)).trans rfl⟩
theorem own_base {w : World} {b b' e s n : Nat} {v : Value} {xs : List Value} (h : w.ownsRow b e s v n xs) (hb : b' ≤ b) : w.ownsRow b' e s v n xs := by
  refine ⟨h.1, ?_⟩
  rcases h.2 with h0 | ⟨g, cap, cur, hv, hg, h3⟩
  · exact .inl h0
  · exact .inr ⟨g, cap, cur, hv, Nat.le_trans hb hg, h3⟩
theorem own_form {w : World} {B e s n : Nat} {v : Value} {xs : List Value} (h : w.ownsRow B e s v n xs) : ∃ p c, v = .slice p n c := by
  rcases h.2 with ⟨rfl, rfl⟩ | ⟨g, cap, cur, rfl, _⟩
  · exact ⟨_, _, rfl⟩
  · exact ⟨_, _, rfl⟩
theorem below_of_drew {w w' : World} (h : Below w.drew.heap.size w.drew w') : Below w.heap.size w w' := (Below.refl _ w).drew.trans h
theorem below_step {a w w' : World} (h : Below a.heap.size a w) (k : Below w.heap.size w w') : Below a.heap.size a w' := h.trans (k.mono h.size)
/-- .. when a list of its own has grown -/
theorem sevg {W w9 : World} {h0 g : Nat} {vo u va vb : Value} {f t p q : Int} (hg : W.grownBy w9 u.ownBlock) (hu : ∀ k, u.ownBlock = some k → h0 + 5 ≤ k ∧ k ≠ g) (hs : h0 + 5 ≤ W.heap.size ∧ g < W.heap.size) (h : W.cell? ⟨h0 + 2, 0, none⟩ = some vo ∧ W.cell? ⟨h0 + 3, 0, none⟩ = some (.int .i64 f) ∧ W.cell? ⟨h0 + 4, 0, none⟩ = some (.int .i64 t) ∧ W.cell? ⟨h0, 0, none⟩ = some va ∧ W.cell? ⟨h0 + 1, 0, none⟩ = some vb ∧ W.cell? ⟨g, 0, none⟩ = some (.int .i64 p) ∧ W.cell? ⟨g, 1, none⟩ = some (.int .i64 q)) :
    w9.cell? ⟨h0 + 2, 0, none⟩ = some vo ∧ w9.cell? ⟨h0 + 3, 0, none⟩ = some (.int .i64 f) ∧ w9.cell? ⟨h0 + 4, 0, none⟩ = some (.int .i64 t) ∧ w9.cell? ⟨h0, 0, none⟩ = some va ∧ w9.cell? ⟨h0 + 1, 0, none⟩ = some vb ∧ w9.cell? ⟨g, 0, none⟩ = some (.int .i64 p) ∧ w9.cell? ⟨g, 1, none⟩ = some (.int .i64 q) := by
  obtain ⟨h1, h2, h3, h4, h5, h6, h7⟩ := h
  have hl : ∀ k i, k < h0 + 5 → w9.cell? ⟨k, i, none⟩ = W.cell? ⟨k, i, none⟩ := fun k i hk => World.cell?_of_block (hg.block k (by omega) (fun e => by have := (hu k e.symm).1; omega))
  have hl2 : ∀ i, w9.cell? ⟨g, i, none⟩ = W.cell? ⟨g, i, none⟩ := fun i => World.cell?_of_block (hg.block g hs.2 (fun e => (hu g e.symm).2 rfl))
  exact ⟨(hl _ _ (by omega)).trans h1, (hl _ _ (by omega)).trans h2, (hl _ _ (by omega)).trans h3, (hl _ _ (by omega)).trans h4, (hl _ _ (by omega)).trans h5, (hl2 _).trans h6, (hl2 _).trans h7⟩
theorem sevs {W : World} {h0 g : Nat} {va vb : Value} {f t p q : Int} (h : W.cell? ⟨h0 + 3, 0, none⟩ = some (.int .i64 f) ∧ W.cell? ⟨h0 + 4, 0, none⟩ = some (.int .i64 t) ∧ W.cell? ⟨h0, 0, none⟩ = some va ∧ W.cell? ⟨h0 + 1, 0, none⟩ = some vb ∧ W.cell? ⟨g, 0, none⟩ = some (.int .i64 p) ∧ W.cell? ⟨g, 1, none⟩ = some (.int .i64 q)) (hg : g ≠ h0 + 2) (v : Value) :
    (W.setCell ⟨h0 + 2, 0, none⟩ v).cell? ⟨h0 + 3, 0, none⟩ = some (.int .i64 f) ∧ (W.setCell ⟨h0 + 2, 0, none⟩ v).cell? ⟨h0 + 4, 0, none⟩ = some (.int .i64 t) ∧ (W.setCell ⟨h0 + 2, 0, none⟩ v).cell? ⟨h0, 0, none⟩ = some va ∧ (W.setCell ⟨h0 + 2, 0, none⟩ v).cell? ⟨h0 + 1, 0, none⟩ = some vb ∧ (W.setCell ⟨h0 + 2, 0, none⟩ v).cell? ⟨g, 0, none⟩ = some (.int .i64 p) ∧ (W.setCell ⟨h0 + 2, 0, none⟩ v).cell? ⟨g, 1, none⟩ = some (.int .i64 q) := by
  obtain ⟨h2, h3, h4, h5, h6, h7⟩ := h
  exact ⟨(cell_set_ne (by omega)).trans h2, (cell_set_ne (by omega)).trans h3, (cell_set_ne (by omega)).trans h4, (cell_set_ne (by omega)).trans h5, (cell_set_ne (by omega)).trans h6, (cell_set_ne (by omega)).trans h7⟩
theorem fzg {W w9 : World} {h0 g : Nat} {u : Value} (hg : W.grownBy w9 u.ownBlock) (hu : ∀ k, u.ownBlock = some k → h0 + 5 ≤ k ∧ k ≠ g) (hs : h0 + 5 ≤ W.heap.size) (h : W.frozen? ⟨h0 + 2, 0, none⟩ = false) : w9.frozen? ⟨h0 + 2, 0, none⟩ = false :=
  (World.frozen?_of_block (hg.block (h0 + 2) (by omega) (fun e => by have := (hu _ e.symm).1; omega))).trans h
theorem Df.size5 {w0 W1 wx : World} {va vb vo : Value} {f t : Nat} {E : List EV} {H : List HK} (h : Df w0 W1 wx va vb f t vo E H) : w0.heap.size + 5 ≤ wx.heap.size := Nat.le_trans h.base h.size
set_option maxRecDepth 100000 in
set_option maxHeartbeats 6400000 in
theorem diff1_any (a b : List ByteArray) (va vb vo : Value) (w0 W1 w : World) (f t p q : Nat) (E : List EV) (H : List HK) (h : Df w0 W1 w va vb f t vo E H) (ha : SL w0 va a) (hb : SL w0 vb b) (hf : f ≤ p) (hp : p ≤ a.length) (ht : t ≤ q) (hq : q ≤ b.length) (hla : a.length ≤ 1000) (hlb : b.length ≤ 1000) (hE : E.length ≤ 100000) :
    Calls Tryd.prog 22 #[.agg #[.int .i64 (p : Int), .int .i64 (q : Int)], .pointer (some ⟨w0.heap.size + 3, 0, none⟩), .pointer (some ⟨w0.heap.size + 4, 0, none⟩), .pointer (some ⟨w0.heap.size + 2, 0, none⟩), .pointer (some ⟨w0.heap.size, 0, none⟩), .pointer (some ⟨w0.heap.size + 1, 0, none⟩)] w fun e w' => e = .returned (.tuple #[]) ∧ ∃ vo' E', Df w0 W1 w' va vb (p + 1) (q + 1) vo' E' (H ++ addH a b f t p q) := by
  have hsz := h.size5
  have hbs := h.base
  have hs1 := ha.keep h.below
  have hs2 := hb.keep h.below
  obtain ⟨A, ca, rfl, hca, _⟩ := ha
  obtain ⟨B, cb, rfl, hcb, _⟩ := hb
  obtain ⟨n, hn⟩ : ∃ n, n = a.length := ⟨_, rfl⟩
  obtain ⟨m, hm⟩ : ∃ m, m = b.length := ⟨_, rfl⟩
  have HS1 := Lib.hid (hs1.cut f p hf hp)
  have HS2 := Lib.hid (hs2.cut t q ht hq)
  have HL1 := Lib.hid (show ((a.drop f).take (p - f)).length * 16 ≤ 140737488355328 by rw [List.length_take, List.length_drop]; omega)
  have HL2 := Lib.hid (show ((b.drop t).take (q - t)).length * 16 ≤ 140737488355328 by rw [List.length_take, List.length_drop]; omega)
  have h1 : (f : Int) ≤ (p : Int) := by omega
  have h2 : (p : Int) ≤ (ca : Int) := by omega
  have h3 : (t : Int) ≤ (q : Int) := by omega
  have h4 : (q : Int) ≤ (cb : Int) := by omega
  have h5 : (p : Int) ≤ 1000 := by omega
  have h6 : (q : Int) ≤ 1000 := by omega
  rw [← hn] at h hs1 ⊢
  rw [← hm] at h hs2 ⊢
  clear hs1 hs2
  go_enter Tryd.func22, Tryd.ntmps22
  go_upto_region 1 with fail
  have hal := (Below.refl w.heap.size w).alloc (Nat.le_refl _) (.cells #[.int .i64 (p : Int), .int .i64 (q : Int)] 66)
  have HD := Lib.hid (h.keep hal)
  have HS1 := Lib.hid (HS1.out.keep hal)
  have HS2 := Lib.hid (HS2.out.keep hal)
  have b0 : (w.alloc (.cells #[.int .i64 (p : Int), .int .i64 (q : Int)] 66)).cell? ⟨w.heap.size, 0, none⟩ = some (.int .i64 (p : Int)) := (new_two w _ _ _).1
  have b1 : (w.alloc (.cells #[.int .i64 (p : Int), .int .i64 (q : Int)] 66)).cell? ⟨w.heap.size, 1, none⟩ = some (.int .i64 (q : Int)) := (new_two w _ _ _).2
  have hgl : w.heap.size < (w.alloc (.cells #[.int .i64 (p : Int), .int .i64 (q : Int)] 66)).heap.size := by simp
  have HVG := Lib.hid (show ∀ k, vo.ownBlock = some k → w0.heap.size + 5 ≤ k ∧ k ≠ w.heap.size from fun k hk => by have := h.own.lt k hk; have := h.base; omega)
  obtain ⟨i0, hi, hz0, hz1, hz2⟩ := info_parts hunkInfo
  have HM := Lib.hid (show E.length + 1 ≤ maxLen ∧ (E.length + 1) * 64 ≤ 140737488355328 by unfold maxLen; omega)
  clear hal h
  generalize w.alloc (.cells #[.int .i64 (p : Int), .int .i64 (q : Int)] 66) = w1 at *
  generalize w.heap.size = g at *
  have c0 := HD.out.ca
  have c1 := HD.out.cb
  have c2 := HD.out.co
  have c3 := HD.out.cf
  have c4 := HD.out.ct
  have z2 := HD.out.fo
  have z3 := HD.out.ff
  have z4 := HD.out.ft
  have HS := Lib.hid (show (w0.heap.size + 5 ≤ w1.heap.size ∧ g < w1.heap.size) ∧ w1.cell? ⟨w0.heap.size + 2, 0, none⟩ = some vo ∧ w1.cell? ⟨w0.heap.size + 3, 0, none⟩ = some (.int .i64 (f : Int)) ∧ w1.cell? ⟨w0.heap.size + 4, 0, none⟩ = some (.int .i64 (t : Int)) ∧ w1.cell? ⟨w0.heap.size, 0, none⟩ = some (.slice A n ca) ∧ w1.cell? ⟨w0.heap.size + 1, 0, none⟩ = some (.slice B m cb) ∧ w1.cell? ⟨g, 0, none⟩ = some (.int .i64 (p : Int)) ∧ w1.cell? ⟨g, 1, none⟩ = some (.int .i64 (q : Int)) from ⟨⟨HD.out.size5, hgl⟩, c2, c3, c4, c0, c1, b0, b1⟩)
  go_cut [16] from 7 to 16 (fun s16 wx => (∃ bb : Bool, s16 = .bool bb ∧ Hid (bb = true ↔ f < p ∨ t < q)) ∧ wx = w1)
  case first =>
    have hbr : (f : Int) < (p : Int) ∨ (¬ (f : Int) < (p : Int) ∧ (t : Int) < (q : Int)) ∨ (¬ (f : Int) < (p : Int) ∧ ¬ (t : Int) < (q : Int)) := by omega
    rcases hbr with hfp | ⟨hfp, htq⟩ | ⟨hfp, htq⟩
    · go_wp2_with fail
      go_meet
      exact ⟨⟨true, rfl, Lib.hid ⟨fun _ => .inl (by omega), fun _ => rfl⟩⟩, rfl⟩
    · go_wp2_with fail
      go_meet
      exact ⟨⟨true, rfl, Lib.hid ⟨fun _ => .inr (by omega), fun _ => rfl⟩⟩, rfl⟩
    · go_wp2_with fail
      go_meet
      exact ⟨⟨false, rfl, Lib.hid ⟨(fun h => by cases h), (fun h => by omega)⟩⟩, rfl⟩
  case rest =>
    obtain ⟨⟨bb, rfl, HBB⟩, rfl⟩ := hcut
    go_upto_if 16 with fail
    go_cut [] from 17 to 34 (fun wx => ∃ vo' E', Df w0 W1 wx (.slice A n ca) (.slice B m cb) f t vo' E' (H ++ addH a b f t p q) ∧ wx.cell? ⟨g, 0, none⟩ = some (.int .i64 (p : Int)) ∧ wx.cell? ⟨g, 1, none⟩ = some (.int .i64 (q : Int)))
    case first =>
      cases bb with
      | true =>
        have HAd := Lib.hid (show addH a b f t p q = [⟨f, t, (a.drop f).take (p - f), (b.drop t).take (q - t)⟩] from if_pos (HBB.out.1 rfl))
        obtain ⟨A1, hA1⟩ : ∃ x, (if ca = f then A else A.map (·.add f)) = x := ⟨_, rfl⟩
        obtain ⟨B1, hB1⟩ : ∃ x, (if cb = t then B else B.map (·.add t)) = x := ⟨_, rfl⟩
        rw [hA1] at HS1
        rw [hB1] at HS2
        generalize (a.drop f).take (p - f) = La at *
        generalize (b.drop t).take (q - t) = Lb at *
        have HGN := Lib.hid (show g ≠ w0.heap.size + 2 by omega)
        have kd : wc.drew.cell? ⟨w0.heap.size + 2, 0, none⟩ = some vo := c2
        go_upto_region 2 with fail
        have hS := sev (Below.refl wc.heap.size wc).drew HS.out
        refine wp_region_tail 18 (fun W => W.cell? ⟨w0.heap.size + 2, 0, none⟩ = some vo ∧ W.cell? ⟨w0.heap.size + 3, 0, none⟩ = some (.int .i64 (f : Int)) ∧ W.cell? ⟨w0.heap.size + 4, 0, none⟩ = some (.int .i64 (t : Int)) ∧ W.cell? ⟨w0.heap.size, 0, none⟩ = some (.slice A n ca) ∧ W.cell? ⟨w0.heap.size + 1, 0, none⟩ = some (.slice B m cb) ∧ W.cell? ⟨g, 0, none⟩ = some (.int .i64 (p : Int)) ∧ W.cell? ⟨g, 1, none⟩ = some (.int .i64 (q : Int))) (by kernel_rfl) (by decide) ?_
        refine wpAnyT_take 99 0 (v := ?_) (by kernel_rfl) rfl (by kernel_rfl) (fun _ _ _ h => h) (Or.inl ⟨by rfl, fun W hW => ?_⟩) (by with_reducible assumption) ?_
        rotate_left
        focus ((try dsimp only at hW); go_simp; try with_reducible rfl)
        refine wpAnyT_take 99 1 (v := ?_) (by kernel_rfl) rfl (by kernel_rfl) (fun _ _ _ h => h) (Or.inl ⟨by rfl, fun W hW => ?_⟩) (by with_reducible assumption) ?_
        rotate_left
        focus ((try dsimp only at hW); go_simp; try with_reducible rfl)
        refine wpAnyT_take 99 2 (v := ?_) (by kernel_rfl) rfl (by kernel_rfl) (fun _ _ _ h => h) (Or.inl ⟨by rfl, fun W hW => ?_⟩) (by with_reducible assumption) ?_
        rotate_left
        focus ((try dsimp only at hW); go_simp; try with_reducible rfl)
        refine wpAnyT_take 99 3 (v := ?_) (by kernel_rfl) rfl (by kernel_rfl) (fun _ _ _ h => h) (Or.inl ⟨by rfl, fun W hW => ?_⟩) (by with_reducible assumption) ?_
        rotate_left
        focus ((try dsimp only at hW); go_simp; try with_reducible rfl)
        refine wpAnyT_take 99 4 (v := ?_) (by kernel_rfl) rfl (by kernel_rfl) (fun _ _ _ h => h) (Or.inl ⟨by rfl, fun W hW => ?_⟩) (by with_reducible assumption) ?_
        rotate_left
        focus ((try dsimp only at hW); go_simp; try with_reducible rfl)
        refine wpAnyT_take 99 5 (v := ?_) (by kernel_rfl) rfl (by kernel_rfl) (fun _ _ _ h => h) (Or.inl ⟨by rfl, fun W hW => ?_⟩) (by with_reducible assumption) ?_
        rotate_left
        focus ((try dsimp only at hW); go_simp; try with_reducible rfl)
        refine wpAnyT_take 99 6 (v := ?_) (by kernel_rfl) rfl (by kernel_rfl) (fun _ _ _ h => h) (Or.inl ⟨by rfl, fun W hW => ?_⟩) (by with_reducible assumption) ?_
        rotate_left
        focus ((try dsimp only at hW); go_simp; try with_reducible rfl)
        refine wpAnyT_take 99 7 (v := ?_) (by kernel_rfl) rfl (by kernel_rfl) (fun _ _ _ h => h) (Or.inl ⟨by rfl, fun W hW => ?_⟩) (by with_reducible assumption) ?_
        rotate_left
        focus ((try dsimp only at hW); go_simp; try with_reducible rfl)
        refine wpAnyT_take 99 9 (v := ?_) (by kernel_rfl) rfl (by kernel_rfl) (fun _ _ _ h => h) (Or.inl ⟨by rfl, fun W hW => ?_⟩) (by with_reducible assumption) ?_
        rotate_left
        focus ((try dsimp only at hW); go_simp; try with_reducible rfl)
        refine wpAnyT_take 99 10 (v := ?_) (by kernel_rfl) rfl (by kernel_rfl) (fun _ _ _ h => h) (Or.inl ⟨by rfl, fun W hW => ?_⟩) (by with_reducible assumption) ?_
        rotate_left
        focus ((try dsimp only at hW); go_simp; try with_reducible rfl)
        refine wpAnyT_take 99 11 (v := ?_) (by kernel_rfl) rfl (by kernel_rfl) (fun _ _ _ h => h) (Or.inl ⟨by rfl, fun W hW => ?_⟩) (by with_reducible assumption) ?_
        rotate_left
        focus ((try dsimp only at hW); go_simp; try with_reducible rfl)
        refine wpAnyT_take 99 12 (v := ?_) (by kernel_rfl) rfl (by kernel_rfl) (fun _ _ _ h => h) (Or.inl ⟨by rfl, fun W hW => ?_⟩) (by with_reducible assumption) ?_
        rotate_left
        focus ((try dsimp only at hW); go_simp; try with_reducible rfl)
        refine wpAnyT_take 99 13 (v := ?_) (by kernel_rfl) rfl (by kernel_rfl) (fun _ _ _ h => h) (Or.inl ⟨by rfl, fun W hW => ?_⟩) (by with_reducible assumption) ?_
        rotate_left
        focus ((try dsimp only at hW); go_simp; try with_reducible rfl)
        refine wpAnyT_one 8 (by kernel_rfl) (by decide) ?_
        refine wpOp_at rfl rfl (fun K hK => ?_)
        go_simp
        refine (clone_any La _ _ (HS1.out.keep (Below.refl _ _).drew) HL1.out).mono ?_
        rintro e wa ⟨va, rfl, ho, hb⟩
        have hxa : Below wc.heap.size wc wa := below_of_drew hb
        obtain ⟨pa, c_a, rfl⟩ := own_form ho
        have HOa := Lib.hid (own_base (b' := W1.heap.size) ho HD.out.size)
        have hSa := sev hxa HS.out
        clear ho hb hS
        refine hK.out _ _ ⟨hSa, ?_⟩
        clear hK K
        refine wpAnyT_one 14 (by kernel_rfl) (by decide) ?_
        refine wpOp_at rfl rfl (fun K hK => ?_)
        go_simp
        refine (clone_any Lb _ _ (HS2.out.keep hxa) HL2.out).mono ?_
        rintro e wb ⟨vb, rfl, ho, hb⟩
        have hxb : Below wc.heap.size wc wb := below_step hxa hb
        obtain ⟨pb, c_b, rfl⟩ := own_form ho
        have HOb := Lib.hid (own_base (b' := W1.heap.size) ho (Nat.le_trans HD.out.size hxa.size))
        have HOa2 := Lib.hid (own_keep HOa.out hb)
        have hSb := sev hxb HS.out
        clear ho hb hSa HOa
        refine hK.out _ _ ⟨hSb, ?_⟩
        clear hK K
        refine wpAnyT_take 99 15 (v := .agg #[.int .i64 (f : Int), .int .i64 (t : Int), .slice pa La.length c_a, .slice pb Lb.length c_b]) (by kernel_rfl) rfl (by kernel_rfl) (fun _ _ _ h => h) (Or.inl ⟨by rfl, fun W hW => ?_⟩) hSb ?_
        · go_simp
        refine wpAnyT_one 16 (by kernel_rfl) (by decide) ?_
        refine wpOp_at rfl rfl (fun K hK => ?_)
        go_simp
        have hxc := hxb.alloc hxb.size (.cells #[.int .i64 (f : Int), .int .i64 (t : Int), .slice pa La.length c_a, .slice pb Lb.length c_b] 68)
        have hSc := sev hxc HS.out
        refine hK.out _ _ ⟨hSc, ?_⟩
        clear hK K
        have HDW := Lib.hid (HD.out.keep hxc)
        refine wpAnyT_one 17 (by kernel_rfl) (by decide) ?_
        refine wpOp_at rfl rfl (fun K hK => ?_)
        refine wp_append_lies _ _ _ 43 (by rfl) W1.heap.size 68 i0 _ 4 64 Tryd.underlying43 hi hz0 hz1 hz2 rfl (by decide) vo E.length (prE E) (by rfl) HDW.out.own _ 1 1 [.int .i64 (f : Int), .int .i64 (t : Int), .slice pa La.length c_a, .slice pb Lb.length c_b] (by rfl) rfl (World.news_of_block (heap_alloc_new _ _)) (by intro u hu; simp at hu; rcases hu with rfl | rfl | rfl | rfl <;> rfl) (by decide) HM.out.1 HM.out.2 (Nat.le_trans HD.out.size hxc.size) _ rfl ?_
        intro g1 cap w9 hown hg hat hlt
        have HF := Lib.hid (HDW.out.put (e := ((f : Int), (t : Int), (pa, La.length, c_a), (pb, Lb.length, c_b))) (k := ⟨f, t, La, Lb⟩) ⟨rfl, rfl, HOa2.out.alloc _, HOb.out.alloc _⟩ hown hg)
        have hs9 := sevg hg HVG.out ⟨HDW.out.size5, Nat.lt_of_lt_of_le HS.out.1.2 hxc.size⟩ hSc
        have z9 := fzg hg HVG.out HDW.out.size5 HDW.out.fo
        have HS9 := Lib.hid hs9
        clear hown hg hat hlt hSb hSc
        refine hK.out _ _ ⟨hs9, ?_⟩
        clear hK K
        refine ⟨by kernel_rfl, ?_⟩
        simp only [List.drop_succ_cons, List.drop_zero]
        have k9 := hs9.1
        clear hs9
        go_wp2_with fail
        go_meet
        exact ⟨_, _, by rw [HAd.out]; exact HF.out, (sevs HS9.out.2 HGN.out _).2.2.2.2⟩
      | false =>
        have HAd := Lib.hid (show addH a b f t p q = [] from if_neg (fun h => by have := HBB.out.2 h; cases this))
        go_wp2_with fail
        go_meet
        exact ⟨vo, E, by rw [HAd.out, List.append_nil]; exact HD.out, b0, b1⟩
    case rest =>
      obtain ⟨vo', E', hD, kk0, kk1⟩ := hcut
      have d3 := hD.cf
      have d4 := hD.ct
      have y3 := hD.ff
      have y4 := hD.ft
      have hg3 : g ≠ w0.heap.size + 3 := by omega
      have hg4 : g ≠ w0.heap.size + 4 := by omega
      have e1 : IntKind.i64.wrap ((p : Int) + 1) = ((p + 1 : Nat) : Int) := by
        rw [show (p : Int) + 1 = ((p + 1 : Nat) : Int) by omega]
        exact IntWalk.i64_in _ (by omega)
      have e2 : IntKind.i64.wrap ((q : Int) + 1) = ((q + 1 : Nat) : Int) := by
        rw [show (q : Int) + 1 = ((q + 1 : Nat) : Int) by omega]
        exact IntWalk.i64_in _ (by omega)
      have HF := Lib.hid hD
      clear hD
      go_upto_region 3 with fail
      rename World => wz
      have hS : wz.drew.cell? ⟨g, 0, none⟩ = some (.int .i64 (p : Int)) ∧ wz.drew.cell? ⟨g, 1, none⟩ = some (.int .i64 (q : Int)) := ⟨kk0, kk1⟩
      refine wp_region_tail 7 (fun W => W.cell? ⟨g, 0, none⟩ = some (.int .i64 (p : Int)) ∧ W.cell? ⟨g, 1, none⟩ = some (.int .i64 (q : Int))) (by kernel_rfl) (by decide) ?_
      refine wpAnyT_take 99 0 (v := ?_) (by kernel_rfl) rfl (by kernel_rfl) (fun _ _ _ h => h) (Or.inl ⟨by rfl, fun W hW => ?_⟩) (by with_reducible assumption) ?_
      rotate_left
      focus ((try dsimp only at hW); go_simp; try with_reducible rfl)
      refine wpAnyT_take 99 1 (v := ?_) (by kernel_rfl) rfl (by kernel_rfl) (fun _ _ _ h => h) (Or.inl ⟨by rfl, fun W hW => ?_⟩) (by with_reducible assumption) ?_
      rotate_left
      focus ((try dsimp only at hW); go_simp; try with_reducible rfl)
      refine wpAnyT_take 99 2 (v := ?_) (by kernel_rfl) rfl (by kernel_rfl) (fun _ _ _ h => h) (Or.inl ⟨by rfl, fun W hW => ?_⟩) (by with_reducible assumption) ?_
      rotate_left
      focus ((try dsimp only at hW); go_simp; try with_reducible rfl)
      refine wpAnyT_take 99 3 (v := ?_) (by kernel_rfl) rfl (by kernel_rfl) (fun _ _ _ h => h) (Or.inl ⟨by rfl, fun W hW => ?_⟩) (by with_reducible assumption) ?_
      rotate_left
      focus ((try dsimp only at hW); go_simp; try with_reducible rfl)
      refine wpAnyT_take 99 4 (v := ?_) (by kernel_rfl) rfl (by kernel_rfl) (fun _ _ _ h => h) (Or.inl ⟨by rfl, fun W hW => ?_⟩) (by with_reducible assumption) ?_
      rotate_left
      focus ((try dsimp only at hW); go_simp; try with_reducible rfl)
      refine wpAnyT_take 99 5 (v := ?_) (by kernel_rfl) rfl (by kernel_rfl) (fun _ _ _ h => h) (Or.inl ⟨by rfl, fun W hW => ?_⟩) (by with_reducible assumption) ?_
      rotate_left
      focus ((try dsimp only at hW); go_simp; try with_reducible rfl)
      refine wpAnyT_one 6 (by kernel_rfl) (by decide) ?_
      refine wpOp_at rfl rfl (fun K hK => ?_)
      go_simp
      have hS2 : ∀ v, (wz.drew.setCell ⟨w0.heap.size + 3, 0, none⟩ v).cell? ⟨g, 0, none⟩ = some (.int .i64 (p : Int)) ∧ (wz.drew.setCell ⟨w0.heap.size + 3, 0, none⟩ v).cell? ⟨g, 1, none⟩ = some (.int .i64 (q : Int)) := fun v => ⟨(cell_set_ne (by omega)).trans hS.1, (cell_set_ne (by omega)).trans hS.2⟩
      refine hK.out _ _ ⟨hS2 _, ?_⟩
      clear hK K
      refine ⟨by kernel_rfl, ?_⟩
      simp only [List.drop_succ_cons, List.drop_zero]
      have HF2 := Lib.hid ((HF.out.keep (Below.refl _ wz).drew).places (p + 1) (q + 1))
      go_wp2_with fail
      go_end0
      exact ⟨rfl, _, _, HF2.out⟩
end Go.Proofs.YtpnnojepbmpfiaaDoor
