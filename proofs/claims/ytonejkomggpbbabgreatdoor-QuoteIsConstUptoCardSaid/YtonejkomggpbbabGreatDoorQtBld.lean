/- QuoteIsConst: the builder of a word: a piece more, a byte more. -/
import Derived.Test.YtonejkomggpbbabGreatDoorQtMem
import Derived.Test.YtonejkomggpbbabGreatDoorConstP
import Derived.Deep.AppendLies
namespace Go.Proofs.YtonejkomggpbbabGreatDoor
open Go.RowKit Go.Shelf

theorem pieceInfo : (Tryz.prog.info? 68).map (fun i => (i.zero, i.size, i.bytes)) = some (some (.agg #[.int .i64 0, .string ⟨#[]⟩, .slice none 0 0, .pointer none, .pointer none, .pointer none]), 6, 72) := by kernel_rfl
def zero6 : List Value := [.int .i64 0, .string ⟨#[]⟩, .slice none 0 0, .pointer none, .pointer none, .pointer none]
def set6 (w : World) (g k : Nat) (p : KT) : World :=
  (((((w.setCell ⟨g, k * 6, none⟩ (.int .i64 p.1)).setCell ⟨g, k * 6 + 1, none⟩ (.string (toB p.2))).setCell ⟨g, k * 6 + 2, none⟩ (.slice none 0 0)).setCell ⟨g, k * 6 + 3, none⟩ (.pointer none)).setCell ⟨g, k * 6 + 4, none⟩ (.pointer none)).setCell ⟨g, k * 6 + 5, none⟩ (.pointer none)
theorem set_row (L : List KT) (Z : List Value) (j : Nat) (u : Value) : (rowQ L ++ Z).set (L.length * 6 + j) u = rowQ L ++ Z.set j u := by
  rw [List.set_append_right _ _ (by rw [rowQ_len]; omega), rowQ_len, Nat.add_sub_cancel_left]
theorem set6_own {w : World} {B g cap : Nat} {L : List KT} {T : TypeId} (h : w.ownsRow B T 6 (.slice (some ⟨g, 0, none⟩) (L.length + 1) cap) (L.length + 1) (rowQ L ++ zero6)) (p : KT) :
    (set6 w g L.length p).ownsRow B T 6 (.slice (some ⟨g, 0, none⟩) (L.length + 1) cap) (L.length + 1) (rowQ (L ++ [p])) := by
  have h0 := (h.stored (L.length * 6 + 0) (.int .i64 p.1)).1
  have h1 := (h0.stored (L.length * 6 + 1) (.string (toB p.2))).1
  have h2 := (h1.stored (L.length * 6 + 2) (.slice none 0 0)).1
  have h3 := (h2.stored (L.length * 6 + 3) (.pointer none)).1
  have h4 := (h3.stored (L.length * 6 + 4) (.pointer none)).1
  have h5 := (h4.stored (L.length * 6 + 5) (.pointer none)).1
  rw [set_row, set_row, set_row, set_row, set_row, set_row] at h5
  rw [rowQ_app, rowQ_one]
  exact h5
theorem set6_rest {B y g k : Nat} {w w' : World} (h : Rest B y w w') (hg : B ≤ g) (p : KT) : Rest B y w (set6 w' g k p) :=
  (((((h.set (.inr hg) _).set (.inr hg) _).set (.inr hg) _).set (.inr hg) _).set (.inr hg) _).set (.inr hg) _
theorem set6_other {w : World} {g k q : Nat} (p : KT) (hq : q ≠ g) : (set6 w g k p).heap[q]? = w.heap[q]? := by
  unfold set6
  rw [heap_setCell_other _ ⟨g, k * 6 + 5, none⟩ q _ hq, heap_setCell_other _ ⟨g, k * 6 + 4, none⟩ q _ hq, heap_setCell_other _ ⟨g, k * 6 + 3, none⟩ q _ hq, heap_setCell_other _ ⟨g, k * 6 + 2, none⟩ q _ hq, heap_setCell_other _ ⟨g, k * 6 + 1, none⟩ q _ hq, heap_setCell_other _ ⟨g, k * 6, none⟩ q _ hq]
theorem BQ.alloc {B y : Nat} {v : Value} {L : List KT} {w : World} (h : BQ B y v L w) (o : Obj) : BQ B y v L (w.alloc o) := by
  have hb := (Below.refl w.heap.size w).alloc (Nat.le_refl _) o
  exact ⟨(hb.block y h.box.lt).trans h.box, h.own.alloc o, h.lt, Nat.le_trans h.le hb.size⟩
theorem BQ.drew {B y : Nat} {v : Value} {L : List KT} {w : World} (h : BQ B y v L w) : BQ B y v L w.drew := ⟨h.box, h.own, h.lt, h.le⟩
/-- the piece that was appended is laid, and the builder's field -/
theorem fin_add {B y g cap : Nat} {v : Value} {L : List KT} {w w6 : World} (hr : Rest B y w w6) (hb : One w6 y 83 v) (ho : w6.ownsRow B 68 6 (.slice (some ⟨g, 0, none⟩) (L.length + 1) cap) (L.length + 1) (rowQ L ++ zero6)) (hg : B ≤ g) (hy : y < B) (hle : B ≤ w6.heap.size) (p : KT) :
    BQ B y (.slice (some ⟨g, 0, none⟩) (L.length + 1) cap) (L ++ [p]) ((set6 w6 g L.length p).setCell ⟨y, 0, none⟩ (.slice (some ⟨g, 0, none⟩) (L.length + 1) cap)) ∧ Rest B y w ((set6 w6 g L.length p).setCell ⟨y, 0, none⟩ (.slice (some ⟨g, 0, none⟩) (L.length + 1) cap)) := by
  have hb2 : One (set6 w6 g L.length p) y 83 v := (set6_other p (by omega)).trans hb
  have h6 := set6_rest (k := L.length) hr hg p
  have hsz : w6.heap.size ≤ (set6 w6 g L.length p).heap.size := (set6_rest (k := L.length) (Rest.refl B y w6) hg p).size
  refine ⟨⟨hb2.set _, ?_, hy, ?_⟩, h6.set (.inl rfl) _⟩
  · rw [List.length_append]
    exact ownsRow_setCell_below (set6_own ho p) hy _
  · exact Nat.le_trans hle (Nat.le_trans hsz ((Only.refl y _).setCell (i := 0) _).size)

/-- behind the append of a piece yet to be laid -/
structure AQ (B y g cap : Nat) (v : Value) (L : List KT) (w w6 : World) : Prop where
  rest : Rest B y w w6
  box : One w6 y 83 v
  own : w6.ownsRow B 68 6 (.slice (some ⟨g, 0, none⟩) (L.length + 1) cap) (L.length + 1) (rowQ L ++ zero6)
  ge : B ≤ g
  lt : y < B
  le : B ≤ w6.heap.size
theorem Rest.drew {B y : Nat} {w w' : World} (h : Rest B y w w') : Rest B y w w'.drew := ⟨h.os, h.tape, h.output, h.size, h.block⟩
theorem AQ.look {B y g cap : Nat} {v : Value} {L : List KT} {w w6 : World} (h : AQ B y g cap v L w w6) : w6.cell? ⟨y, 0, none⟩ = some v ∧ w6.frozen? ⟨y, 0, none⟩ = false ∧ (∀ j, w6.frozen? ⟨g, j, none⟩ = false) ∧
    w6.cell? ⟨g, L.length * 6, none⟩ = some (.int .i64 0) ∧ w6.cell? ⟨g, L.length * 6 + 1, none⟩ = some (.string ⟨#[]⟩) ∧ w6.cell? ⟨g, L.length * 6 + 2, none⟩ = some (.slice none 0 0) ∧ w6.cell? ⟨g, L.length * 6 + 3, none⟩ = some (.pointer none) ∧ w6.cell? ⟨g, L.length * 6 + 4, none⟩ = some (.pointer none) ∧ w6.cell? ⟨g, L.length * 6 + 5, none⟩ = some (.pointer none) := by
  have hc : ∀ j, j < 6 → w6.cell? ⟨g, L.length * 6 + j, none⟩ = zero6[j]? := fun j hj => by
    rw [h.own.cellAt (L.length * 6 + j) (by omega), List.getElem?_append_right (by rw [rowQ_len]; omega), rowQ_len, Nat.add_sub_cancel_left]
  exact ⟨h.box.cell, h.box.fz, h.own.frozenAt, hc 0 (by decide), hc 1 (by decide), hc 2 (by decide), hc 3 (by decide), hc 4 (by decide), hc 5 (by decide)⟩
theorem AQ.ne {B y g cap : Nat} {v : Value} {L : List KT} {w w6 : World} (h : AQ B y g cap v L w w6) : y ≠ g ∧ g ≠ y := by
  have := h.ge; have := h.lt; exact ⟨by omega, by omega⟩
theorem add_facts {B y g cap : Nat} {v : Value} {L : List KT} {w wa w6 : World} (hq : BQ B y v L wa) (hr : Rest B y w wa) (hB : B ≤ w.heap.size) (hg : wa.grownBy w6 v.ownBlock) (hat : v.ownBlock = some g ∨ g = wa.heap.size)
    (ho : w6.ownsRow B 68 6 (.slice (some ⟨g, 0, none⟩) (L.length + 1) cap) (L.length + 1) (rowQ L ++ zero6)) : AQ B y g cap v L w w6 := by
  have hge : B ≤ g := by
    rcases hat with h | h
    · exact (hq.own.lt g h).1
    · rw [h]; exact hq.le
  have hlt := hq.lt
  refine ⟨hr.grown hg (fun q hq' => (hq.own.lt q hq').1) hB, (hg.block y hq.box.lt (fun e => ?_)).trans hq.box, ho, hge, hlt, Nat.le_trans hq.le hg.size⟩
  have := (hq.own.lt y e.symm).1
  omega

theorem AQ.fin {B y g cap : Nat} {v : Value} {L : List KT} {w w6 : World} (h : AQ B y g cap v L w w6) (k : Int) (t : List UInt8) :
    ∃ v', BQ B y v' (L ++ [(k, t)]) ((((((((w6.setCell ⟨g, L.length * 6, none⟩ (.int .i64 k)).setCell ⟨g, L.length * 6 + 1, none⟩ (.string (toB t))).setCell ⟨g, L.length * 6 + 2, none⟩ (.slice none 0 0)).setCell ⟨g, L.length * 6 + 3, none⟩ (.pointer none)).setCell ⟨g, L.length * 6 + 4, none⟩ (.pointer none)).setCell ⟨g, L.length * 6 + 5, none⟩ (.pointer none)).setCell ⟨y, 0, none⟩ (.slice (some ⟨g, 0, none⟩) (L.length + 1) cap))) ∧ Rest B y w ((((((((w6.setCell ⟨g, L.length * 6, none⟩ (.int .i64 k)).setCell ⟨g, L.length * 6 + 1, none⟩ (.string (toB t))).setCell ⟨g, L.length * 6 + 2, none⟩ (.slice none 0 0)).setCell ⟨g, L.length * 6 + 3, none⟩ (.pointer none)).setCell ⟨g, L.length * 6 + 4, none⟩ (.pointer none)).setCell ⟨g, L.length * 6 + 5, none⟩ (.pointer none)).setCell ⟨y, 0, none⟩ (.slice (some ⟨g, 0, none⟩) (L.length + 1) cap))) := by
  exact ⟨_, fin_add h.rest h.box h.own h.ge h.lt h.le (k, t)⟩
theorem AQ.fin2 {B y g cap : Nat} {v : Value} {L : List KT} {w w6 : World} (h : AQ B y g cap v L w w6) (k : Int) (t : List UInt8) :
    ∃ v', BQ B y v' (L ++ [(k, t)]) ((((((((w6.setCell ⟨y, 0, none⟩ (.slice (some ⟨g, 0, none⟩) (L.length + 1) cap)).setCell ⟨g, L.length * 6, none⟩ (.int .i64 k)).setCell ⟨g, L.length * 6 + 1, none⟩ (.string (toB t))).setCell ⟨g, L.length * 6 + 2, none⟩ (.slice none 0 0)).setCell ⟨g, L.length * 6 + 3, none⟩ (.pointer none)).setCell ⟨g, L.length * 6 + 4, none⟩ (.pointer none)).setCell ⟨g, L.length * 6 + 5, none⟩ (.pointer none))) ∧ Rest B y w ((((((((w6.setCell ⟨y, 0, none⟩ (.slice (some ⟨g, 0, none⟩) (L.length + 1) cap)).setCell ⟨g, L.length * 6, none⟩ (.int .i64 k)).setCell ⟨g, L.length * 6 + 1, none⟩ (.string (toB t))).setCell ⟨g, L.length * 6 + 2, none⟩ (.slice none 0 0)).setCell ⟨g, L.length * 6 + 3, none⟩ (.pointer none)).setCell ⟨g, L.length * 6 + 4, none⟩ (.pointer none)).setCell ⟨g, L.length * 6 + 5, none⟩ (.pointer none))) := by
  have hb2 := h.box.set (.slice (some ⟨g, 0, none⟩) (L.length + 1) cap)
  have ho2 := set6_own (ownsRow_setCell_below (a := ⟨y, 0, none⟩) h.own h.lt (.slice (some ⟨g, 0, none⟩) (L.length + 1) cap)) (k, t)
  have hr2 := set6_rest (k := L.length) (h.rest.set (.inl rfl) (i := 0) (.slice (some ⟨g, 0, none⟩) (L.length + 1) cap)) h.ge (k, t)
  refine ⟨.slice (some ⟨g, 0, none⟩) (L.length + 1) cap, ⟨(set6_other (k, t) h.ne.1).trans hb2, by rw [List.length_append]; exact ho2, h.lt, ?_⟩, hr2⟩
  have h1 : w6.heap.size ≤ (w6.setCell ⟨y, 0, none⟩ (.slice (some ⟨g, 0, none⟩) (L.length + 1) cap)).heap.size := ((Only.refl y w6).setCell (i := 0) _).size
  have h2 := (set6_rest (B := B) (y := y) (k := L.length) (Rest.refl B y (w6.setCell ⟨y, 0, none⟩ (.slice (some ⟨g, 0, none⟩) (L.length + 1) cap))) h.ge (k, t)).size
  exact Nat.le_trans h.le (Nat.le_trans h1 h2)
theorem six_cells {w : World} {b : Nat} {a0 a1 a2 a3 a4 a5 : Value} {T : TypeId} (h : w.heap[b]? = some (.cells #[a0, a1, a2, a3, a4, a5] T (0, 0))) :
    w.cell? ⟨b, 0, none⟩ = some a0 ∧ w.cell? ⟨b, 1, none⟩ = some a1 ∧ w.cell? ⟨b, 2, none⟩ = some a2 ∧ w.cell? ⟨b, 3, none⟩ = some a3 ∧ w.cell? ⟨b, 4, none⟩ = some a4 ∧ w.cell? ⟨b, 5, none⟩ = some a5 := by
  unfold World.cell?
  simp only [h]
  exact ⟨rfl, rfl, rfl, rfl, rfl, rfl⟩
theorem box_keep {px g n : Nat} {v : Value} {o : Obj} {wa w6 : World} (hk : wa.heap[px]? = some o) (hg : wa.grownBy w6 v.ownBlock) (hat : v.ownBlock = some g ∨ g = wa.heap.size) (hv : ∀ q, v.ownBlock = some q → q < px) (_hn : n = 0) : (w6.heap[px]? = some o) ∧ px ≠ g ∧ g ≠ px := by
  have hl := (Array.getElem?_eq_some_iff.1 hk).1
  refine ⟨(hg.block px hl (fun e => by have := hv px e.symm; omega)).trans hk, ?_, ?_⟩
  all_goals
    rcases hat with h | h
    · have := hv g h; omega
    · omega
set_option maxRecDepth 100000 in
set_option maxHeartbeats 3200000 in
theorem add_any (B y : Nat) (v : Value) (L : List KT) (k : Int) (t : List UInt8) (w : World) (h : BQ B y v L w) (hn : L.length ≤ 1000000) :
    Calls Tryz.prog 64 #[.pointer (some ⟨y, 0, none⟩), .agg #[.int .i64 k, .string (toB t), .slice none 0 0, .pointer none, .pointer none, .pointer none]] w fun e w' => e = .returned (.tuple #[]) ∧ ∃ v', BQ B y v' (L ++ [(k, t)]) w' ∧ Rest B y w w' := by
  have HQ := Lib.hid (h.alloc (.cells #[.int .i64 k, .string (toB t), .slice none 0 0, .pointer none, .pointer none, .pointer none] 68))
  have HR := Lib.hid ((Rest.refl B y w).alloc h.le (.cells #[.int .i64 k, .string (toB t), .slice none 0 0, .pointer none, .pointer none, .pointer none] 68))
  have HV := Lib.hid (fun q (hq : v.ownBlock = some q) => (h.own.lt q hq).2)
  have HK := Lib.hid (heap_alloc_new w (.cells #[.int .i64 k, .string (toB t), .slice none 0 0, .pointer none, .pointer none, .pointer none] 68))
  have hP : ∀ j, (w.alloc (.cells #[.int .i64 k, .string (toB t), .slice none 0 0, .pointer none, .pointer none, .pointer none] 68)).cell? ⟨w.heap.size, j, none⟩ = (#[Value.int .i64 k, .string (toB t), .slice none 0 0, .pointer none, .pointer none, .pointer none])[j]? := fun j => by
    have hb := heap_alloc_new w (.cells #[.int .i64 k, .string (toB t), .slice none 0 0, .pointer none, .pointer none, .pointer none] 68)
    unfold World.cell?
    dsimp only
    rw [hb]
    rfl
  obtain ⟨A, c, rfl⟩ := own_form h.own
  have hlt := h.lt
  have HB := h.le
  clear h
  go_enter Tryz.func64, Tryz.ntmps64
  go_upto_region 1 with fail
  generalize w.alloc (.cells #[.int .i64 k, .string (toB t), .slice none 0 0, .pointer none, .pointer none, .pointer none] 68) = w1 at *
  have p0 := hP 0; have p1 := hP 1; have p2 := hP 2; have p3 := hP 3; have p4 := hP 4; have p5 := hP 5
  simp only [List.getElem?_toArray, List.getElem?_cons_zero, List.getElem?_cons_succ] at p0 p1 p2 p3 p4 p5
  have cy := HQ.out.box.cell
  have zy := HQ.out.box.fz
  obtain ⟨i0, hi, hz0, hz1, hz2⟩ := info_parts pieceInfo
  have hlx : (L.length : Int) < (L.length : Int) + 1 := by omega
  have hnl : ∀ u ∈ zero6, u.oneCell' = true := by intro u hu; simp [zero6] at hu; rcases hu with rfl | rfl | rfl | rfl <;> rfl
  have HQd := Lib.hid HQ.out.drew
  have hyl : y < w1.heap.size := HQ.out.box.lt
  have hpx : w.heap.size < w1.heap.size := World.block_lt_of_cell? w1 _ p0
  clear hP
  go_region_law (first
    | (refine step_append_lies _ rfl _ _ 26 (by rfl) B 68 i0 _ 6 72 Tryz.underlying26 hi hz0 hz1 hz2 rfl (by decide) (.slice A L.length c) L.length (rowQ L) (by rfl) (by exact (HQd.out.alloc _).own) _ 1 1 zero6 (by rfl) rfl (World.news_of_block (heap_alloc_new _ _)) hnl (by decide) (by unfold maxLen; omega) (by omega) (by exact (HQd.out.alloc _).le) _ rfl ?_; intro g1 cap w6 hown hgrow hat hlt6; have H6 := Lib.hid (add_facts (wa := _) (by first | exact (HQ.out.alloc _).drew | exact HQ.out.drew.alloc _) (by first | exact ((HR.out.alloc HB _).drew) | exact (HR.out.drew.alloc HB _)) HB hgrow hat hown); obtain ⟨cy6, zy6, rz, q0, q1, q2, q3, q4, q5⟩ := H6.out.look; obtain ⟨ne1, ne2⟩ := H6.out.ne; obtain ⟨hk6, ne3, ne4⟩ := box_keep (n := 0) (by first | exact ((Below.heap_alloc _ _ _ hpx).trans HK.out) | exact HK.out) hgrow hat HV.out rfl; obtain ⟨b0, b1, b2, b3, b4, b5⟩ := six_cells hk6; clear hown hgrow hat hk6))
  all_goals
    go_wp2_with fail
    go_end0
    refine ⟨rfl, ?_⟩
    first
      | (have hz := H6.out.fin k t; with_reducible assumption)
      | (have hz := H6.out.fin2 k t; with_reducible assumption)
end Go.Proofs.YtonejkomggpbbabGreatDoor
