/- QuoteIsConst: a word of plain pieces that is being built, in memory. -/
import Derived.Test.YtonejkomggpbbabGreatDoorQtLaw
import Derived.Test.YtonejkomggpbbabGreatDoorArSign
namespace Go.Proofs.YtonejkomggpbbabGreatDoor
open Go.RowKit Go.Shelf

/-- the cells of a piece without parts -/
def pcV (p : KT) : List Value := [.int .i64 p.1, .string (toB p.2), .slice none 0 0, .pointer none, .pointer none, .pointer none]
def rowQ (L : List KT) : List Value := L.flatMap pcV
theorem rowQ_len (L : List KT) : (rowQ L).length = L.length * 6 := by
  induction L with
  | nil => rfl
  | cons x L ih => rw [rowQ, List.flatMap_cons, List.length_append, ← rowQ, ih, List.length_cons]; show 6 + _ = _; omega
theorem rowQ_app (L M : List KT) : rowQ (L ++ M) = rowQ L ++ rowQ M := by simp [rowQ]
theorem rowQ_one (p : KT) : rowQ [p] = pcV p := by simp [rowQ]
theorem rowQ_at : ∀ (L : List KT) (j i : Nat) (h : j < L.length) (_ : i < 6), (rowQ L)[j * 6 + i]? = (pcV L[j])[i]?
  | x :: L, 0, i, _, hi => by
    show (pcV x ++ rowQ L)[0 * 6 + i]? = _
    rw [Nat.zero_mul, Nat.zero_add, List.getElem?_append_left (by exact hi)]
    rfl
  | x :: L, j + 1, i, h, hi => by
    have := rowQ_at L j i (by simpa using h) hi
    show (pcV x ++ rowQ L)[(j + 1) * 6 + i]? = _
    rw [List.getElem?_append_right (by show 6 ≤ _; omega), show (j + 1) * 6 + i - (pcV x).length = j * 6 + i by show _ - 6 = _; omega, this]
    rfl
theorem rowQ_set (L : List KT) (k : Int) (t u : List UInt8) : (rowQ (L ++ [(k, t)])).set (L.length * 6 + 1) (.string (toB u)) = rowQ (L ++ [(k, u)]) := by
  rw [rowQ_app, rowQ_app, rowQ_one, rowQ_one, List.set_append_right _ _ (by rw [rowQ_len]; omega), rowQ_len, Nat.add_sub_cancel_left]
  rfl
/-- nothing but block y and what is new since B has changed -/
structure Rest (B y : Nat) (w w' : World) : Prop where
  os : w'.os = w.os
  tape : w'.tape = w.tape
  output : w'.output = w.output
  size : w.heap.size ≤ w'.heap.size
  block : ∀ k, k < B → k ≠ y → w'.heap[k]? = w.heap[k]?
theorem Rest.refl (B y : Nat) (w : World) : Rest B y w w := ⟨rfl, rfl, rfl, Nat.le_refl _, fun _ _ _ => rfl⟩
theorem Rest.trans {B y : Nat} {w a w' : World} (h : Rest B y w a) (k : Rest B y a w') : Rest B y w w' :=
  ⟨k.os.trans h.os, k.tape.trans h.tape, k.output.trans h.output, Nat.le_trans h.size k.size, fun i hi hy => (k.block i hi hy).trans (h.block i hi hy)⟩
theorem Rest.alloc {B y : Nat} {w w' : World} (h : Rest B y w w') (hB : B ≤ w.heap.size) (o : Obj) : Rest B y w (w'.alloc o) := by
  have hb := (Below.refl w'.heap.size w').alloc (Nat.le_refl _) o
  exact ⟨hb.os.trans h.os, hb.tape.trans h.tape, hb.output.trans h.output, Nat.le_trans h.size hb.size, fun i hi hy => (hb.block i (Nat.lt_of_lt_of_le (Nat.lt_of_lt_of_le hi hB) h.size)).trans (h.block i hi hy)⟩
theorem Rest.set {B y g i : Nat} {w w' : World} (h : Rest B y w w') (hg : g = y ∨ B ≤ g) (u : Value) : Rest B y w (w'.setCell ⟨g, i, none⟩ u) := by
  have ho := (Only.refl g w').setCell (i := i) u
  refine ⟨ho.os.trans h.os, ho.tape.trans h.tape, ho.output.trans h.output, Nat.le_trans h.size ho.size, fun k hk hy => ?_⟩
  refine Eq.trans ?_ (h.block k hk hy)
  exact heap_setCell_other w' ⟨g, i, none⟩ k u (fun e => by
    have e2 : k = g := e
    rcases hg with rfl | hg
    · exact hy e2
    · omega)
theorem Rest.grown {B y : Nat} {w w' wz : World} (h : Rest B y w w') {row : Option Nat} (hg : w'.grownBy wz row) (hr : ∀ q, row = some q → B ≤ q) (hB : B ≤ w.heap.size) : Rest B y w wz :=
  ⟨hg.os.trans h.os, hg.tape.trans h.tape, hg.output.trans h.output, Nat.le_trans h.size hg.size, fun k hk hy => (hg.block k (Nat.lt_of_lt_of_le (Nat.lt_of_lt_of_le hk hB) h.size) (fun e => by have := hr k e.symm; omega)).trans (h.block k hk hy)⟩
/-- the builder in block y has the pieces L -/
structure BQ (B y : Nat) (v : Value) (L : List KT) (w : World) : Prop where
  box : One w y 83 v
  own : w.ownsRow B 68 6 v L.length (rowQ L)
  lt : y < B
  le : B ≤ w.heap.size
theorem BQ.only {B y b : Nat} {v : Value} {L : List KT} {w w' : World} (h : BQ B y v L w) (ho : Only b w w') (hb : b < B) (hy : b ≠ y) : BQ B y v L w' :=
  ⟨h.box.only ho (fun e => hy e.symm), own_only h.own ho hb, h.lt, Nat.le_trans h.le ho.size⟩
theorem Rd.rest {B y b : Nat} {T l : List UInt8} {w w' : World} (h : Rd w b T l) (hr : Rest B y w w') (hb : b < B) (hy : b ≠ y) : Rd w' b T l := by
  obtain ⟨p, lf, h1, h2, h3, h4⟩ := h.box
  exact ⟨⟨p, lf, h1, h2, h3, (hr.block b hb hy).trans h4⟩, h.suf, h.len⟩
end Go.Proofs.YtonejkomggpbbabGreatDoor
