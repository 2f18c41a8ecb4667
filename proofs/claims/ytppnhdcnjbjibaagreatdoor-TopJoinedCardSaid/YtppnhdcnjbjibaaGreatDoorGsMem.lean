/- Stable sorting of texts: a row of texts in memory beside the keys' block, and its exchanges; regions whose calls make memory. -/
import Derived.Test.YtppnhdcnjbjibaaGreatDoorSmBlk
import Derived.Test.YtppnhdcnjbjibaaGreatDoorOnly
import Derived.Test.YtppnhdcnjbjibaaGreatDoorTjOrd
import Derived.Shelf.SlSortCmp.QuietGrown
import Derived.Lib.Hide
namespace Go.Proofs.YtppnhdcnjbjibaaGreatDoor
open Go.RowKit

/-- how far a world lies behind another one: nothing that was there is changed -/
structure BelowBy (w : World) where
  W : World
  h : Below w.heap.size w W
def BelowBy.refl (w : World) : BelowBy w := ⟨w, Below.refl _ _⟩
instance (w : World) : Inhabited (BelowBy w) := ⟨BelowBy.refl w⟩
theorem wp_region_quiet_below {P : Program} {id : Nat} {Q : Exit → Act → World → Prop} {a : Act} {w : World} {l : List Oper} (hm : P.follows .mixedOrders = true) (hB : Region.lexB .any l.toArray = true)
    (h : wpQuiet P l.toArray (fun w' => ∃ p : BelowBy w, w' = p.W) (fun a' => ∀ w', (∃ p : BelowBy w, w' = p.W) → Q .normal a' w') l a) : (Code.region id l.toArray true).wp P Q a w :=
  wp_region_quiet (C := fun w' => ∃ p : BelowBy w, w' = p.W) hm hB ⟨⟨w.drew, (Below.refl _ _).drew⟩, rfl⟩ (by simpa using h)
theorem calls_below_of {P : Program} {f : FuncId} {args : Array Value} {w : World} {v : Value} (p : BelowBy w)
    (h : Calls P f args p.W fun e w' => e = .returned v ∧ Below p.W.heap.size p.W w') : Calls P f args p.W fun e w'' => e = .returned v ∧ ∃ q : BelowBy w, w'' = q.W :=
  h.mono fun _ w' ⟨he, hb⟩ => ⟨he, ⟨w', p.h.trans (hb.mono p.h.size)⟩, rfl⟩

/-- the cells of the one key -/
def keyCells : Array Value := #[.int .i64 1, .int .i64 1, .int .i64 1, .int .i64 0, .bool false, .bool false, .bool false, .bool false]
/-- the key lies in a block of its own -/
def KeyAt (w : World) (kb : Nat) : Prop := w.heap[kb]? = some (.cells keyCells 37 (0, 0))
theorem KeyAt.lt {w : World} {kb : Nat} (h : KeyAt w kb) : kb < w.heap.size := (Array.getElem?_eq_some_iff.1 h).1
theorem KeyAt.keep {w w' : World} {kb : Nat} (h : KeyAt w kb) (hb : Below w.heap.size w w') : KeyAt w' kb := (hb.block kb h.lt).trans h
theorem KeyAt.cell {w : World} {kb : Nat} (h : KeyAt w kb) (j : Nat) : w.cell? ⟨kb, j, none⟩ = keyCells[j]? := by
  unfold KeyAt at h
  simp [World.cell?, h]
theorem KeyAt.set {w : World} {kb g i : Nat} (h : KeyAt w kb) (hne : kb ≠ g) (v : Value) : KeyAt (w.setCell ⟨g, i, none⟩ v) kb := (heap_setCell_other w ⟨g, i, none⟩ kb v (fun e => hne e)).trans h
/-- the order, as a value -/
abbrev specV (kb : Nat) : Value := .agg #[.string ⟨#[44]⟩, .slice (some ⟨kb, 0, none⟩) 1 1, .bool false, .bool false, .bool false]

abbrev EV := ByteArray
abbrev k0 (v : EV) : Value := .string v
def keyE (v : EV) : Int := keyN v
def goodE (v : EV) : Prop := v.size ≤ 200
/-- the cells of elements -/
def flE (L : List (Nat × EV)) : List Value := L.map fun p => k0 p.2
theorem flE_len (L : List (Nat × EV)) : (flE L).length = L.length := by simp [flE]
theorem flE_at (L : List (Nat × EV)) (i : Nat) (h : i < L.length) : (flE L)[i]? = some (k0 L[i].2) := by simp [flE, h]
theorem flE_set (L : List (Nat × EV)) (i : Nat) (t : Nat) (v : EV) : (flE L).set i (k0 v) = flE (L.set i (t, v)) := by simp [flE, List.map_set]
/-- the row that is sorted, and the key's block beside it -/
structure Dat (T : TypeId) (w : World) (g n cap kb : Nat) (L : List (Nat × EV)) : Prop where
  own : w.ownsRow g T 1 (.slice (some ⟨g, 0, none⟩) n cap) n (flE L)
  len : L.length = n
  cm : KeyAt w kb
  ne : kb ≠ g
def putE (w : World) (g i : Nat) (v : EV) : World := w.setCell ⟨g, i, none⟩ (k0 v)
theorem Dat.put {T : TypeId} {w : World} {g n cap kb : Nat} {L : List (Nat × EV)} (h : Dat T w g n cap kb L) (i t : Nat) (v : EV) : Dat T (putE w g i v) g n cap kb (L.set i (t, v)) := by
  have h0 := (h.own.stored i (k0 v)).1
  rw [flE_set L i t v] at h0
  exact ⟨h0, by rw [List.length_set]; exact h.len, h.cm.set h.ne _, h.ne⟩
theorem putE_only (w : World) (g i : Nat) (v : EV) : Only g w (putE w g i v) := (Only.refl g w).setCell _
theorem Dat.cells {T : TypeId} {w : World} {g n cap kb : Nat} {L : List (Nat × EV)} (h : Dat T w g n cap kb L) (i : Nat) (hi : i < L.length) :
    w.cell? ⟨g, i, none⟩ = some (k0 L[i].2) := by
  have hl := h.len
  exact (h.own.cellAt i (by omega)).trans (flE_at L i hi)
theorem Dat.fz {T : TypeId} {w : World} {g n cap kb : Nat} {L : List (Nat × EV)} (h : Dat T w g n cap kb L) (j : Nat) : w.frozen? ⟨g, j, none⟩ = false := h.own.frozenAt j
theorem Dat.below {T : TypeId} {w w' : World} {g n cap kb : Nat} {L : List (Nat × EV)} (h : Dat T w g n cap kb L) (hb : Below w.heap.size w w') : Dat T w' g n cap kb L := by
  refine ⟨⟨h.own.1, ?_⟩, h.len, h.cm.keep hb, h.ne⟩
  rcases h.own.2 with h0 | ⟨g', cap', cur, hv, hb', hg, h3⟩
  · exact .inl h0
  · exact .inr ⟨g', cap', cur, hv, hb', (hb.block g' (Array.getElem?_eq_some_iff.1 hg).1).trans hg, h3⟩
theorem Dat.drew {T : TypeId} {w : World} {g n cap kb : Nat} {L : List (Nat × EV)} (h : Dat T w g n cap kb L) : Dat T w.drew g n cap kb L := h.below (Below.refl _ _).drew
/-- two elements are exchanged -/
theorem swapped {A M B : List (Nat × EV)} {u v : Nat × EV} {i j : Nat} (hi : i = A.length) (hj : j = A.length + 1 + M.length) :
    ((A ++ u :: (M ++ v :: B)).set i v).set j u = A ++ v :: (M ++ u :: B) := by
  subst hi hj
  rw [List.set_append_right _ _ (Nat.le_refl _), Nat.sub_self, List.set_cons_zero, List.set_append_right _ _ (by omega),
    show A.length + 1 + M.length - A.length = M.length + 1 by omega, List.set_cons_succ, List.set_append_right _ _ (Nat.le_refl _), Nat.sub_self, List.set_cons_zero]
theorem Dat.swap {T : TypeId} {w : World} {g n cap kb : Nat} {A M B : List (Nat × EV)} {u v : Nat × EV} (h : Dat T w g n cap kb (A ++ u :: (M ++ v :: B))) {i j : Nat} (hi : i = A.length) (hj : j = A.length + 1 + M.length) :
    Dat T (putE (putE w g i v.2) g j u.2) g n cap kb (A ++ v :: (M ++ u :: B)) := by
  have h1 := (h.put i v.1 v.2).put j u.1 u.2
  rwa [swapped hi hj] at h1
/-- what lies at a place -/
theorem Dat.at {T : TypeId} {w : World} {g n cap kb : Nat} {A B : List (Nat × EV)} {u : Nat × EV} (h : Dat T w g n cap kb (A ++ u :: B)) {i : Nat} (hi : i = A.length) :
    i < n ∧ w.cell? ⟨g, i, none⟩ = some (k0 u.2) := by
  subst hi
  have hl := h.len
  have hlt : A.length < (A ++ u :: B).length := by simp
  have hc := h.cells A.length hlt
  have he : (A ++ u :: B)[A.length] = u := by simp
  rw [he] at hc
  rw [List.length_append, List.length_cons] at hl
  exact ⟨by omega, hc⟩
end Go.Proofs.YtppnhdcnjbjibaaGreatDoor
