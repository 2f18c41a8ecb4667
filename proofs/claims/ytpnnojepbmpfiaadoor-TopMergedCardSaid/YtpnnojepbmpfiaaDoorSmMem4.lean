/- Stable sorting: a row of elements of 4 cells in memory, and its exchanges. (Printed by tools/gsm.py.) -/
import Derived.Test.YtpnnojepbmpfiaaDoorSmBlk
import Derived.Test.YtpnnojepbmpfiaaDoorOnly
namespace Go.Proofs.YtpnnojepbmpfiaaDoor
open Go.RowKit

abbrev EV := Int × Int × (Option Addr × Nat × Nat) × (Option Addr × Nat × Nat)
abbrev k0 (v : EV) : Value := .int .i64 v.1
abbrev k1 (v : EV) : Value := .int .i64 v.2.1
abbrev k2 (v : EV) : Value := .slice v.2.2.1.1 v.2.2.1.2.1 v.2.2.1.2.2
abbrev k3 (v : EV) : Value := .slice v.2.2.2.1 v.2.2.2.2.1 v.2.2.2.2.2
/-- the cells of elements -/
def flE (L : List (Nat × EV)) : List Value := L.flatMap fun p => [k0 p.2, k1 p.2, k2 p.2, k3 p.2]
theorem flE_len (L : List (Nat × EV)) : (flE L).length = L.length * 4 := by
  induction L with
  | nil => rfl
  | cons x L ih => rw [flE, List.flatMap_cons, List.length_append, ← flE, ih]; simp only [List.length_cons, List.length_nil]; omega
theorem flE_at : ∀ (L : List (Nat × EV)) (i : Nat) (h : i < L.length), (flE L)[i * 4]? = some (k0 L[i].2) ∧ (flE L)[i * 4 + 1]? = some (k1 L[i].2) ∧ (flE L)[i * 4 + 2]? = some (k2 L[i].2) ∧ (flE L)[i * 4 + 3]? = some (k3 L[i].2)
  | x :: L, 0, _ => ⟨rfl, rfl, rfl, rfl⟩
  | x :: L, i + 1, h => by
    have := flE_at L i (by simpa using h)
    rw [show (i + 1) * 4 = i * 4 + 4 by omega]
    exact this
theorem flE_set : ∀ (L : List (Nat × EV)) (i : Nat) (t : Nat) (v : EV), (((((flE L).set (i * 4) (k0 v)).set (i * 4 + 1) (k1 v)).set (i * 4 + 2) (k2 v)).set (i * 4 + 3) (k3 v)) = flE (L.set i (t, v))
  | [], _, _, _ => rfl
  | x :: L, 0, _, _ => rfl
  | x :: L, i + 1, t, v => by
    rw [show (i + 1) * 4 = i * 4 + 4 by omega]
    show k0 x.2 :: k1 x.2 :: k2 x.2 :: k3 x.2 :: (((((flE L).set (i * 4) (k0 v)).set (i * 4 + 1) (k1 v)).set (i * 4 + 2) (k2 v)).set (i * 4 + 3) (k3 v)) = k0 x.2 :: k1 x.2 :: k2 x.2 :: k3 x.2 :: flE (L.set i (t, v))
    rw [flE_set L i t v]
/-- the row that is sorted -/
structure Dat (T : TypeId) (w : World) (g n cap : Nat) (L : List (Nat × EV)) : Prop where
  own : w.ownsRow g T 4 (.slice (some ⟨g, 0, none⟩) n cap) n (flE L)
  len : L.length = n
def putE (w : World) (g i : Nat) (v : EV) : World := ((((w.setCell ⟨g, i * 4, none⟩ (k0 v)).setCell ⟨g, i * 4 + 1, none⟩ (k1 v)).setCell ⟨g, i * 4 + 2, none⟩ (k2 v)).setCell ⟨g, i * 4 + 3, none⟩ (k3 v))
theorem Dat.put {T : TypeId} {w : World} {g n cap : Nat} {L : List (Nat × EV)} (h : Dat T w g n cap L) (i t : Nat) (v : EV) : Dat T (putE w g i v) g n cap (L.set i (t, v)) := by
  have h0 := (h.own.stored (i * 4) (k0 v)).1
  have h1 := (h0.stored (i * 4 + 1) (k1 v)).1
  have h2 := (h1.stored (i * 4 + 2) (k2 v)).1
  have h3 := (h2.stored (i * 4 + 3) (k3 v)).1
  rw [flE_set L i t v] at h3
  exact ⟨h3, by rw [List.length_set]; exact h.len⟩
theorem putE_only (w : World) (g i : Nat) (v : EV) : Only g w (putE w g i v) := ((((Only.refl g w).setCell _).setCell _).setCell _).setCell _
theorem Dat.cells {T : TypeId} {w : World} {g n cap : Nat} {L : List (Nat × EV)} (h : Dat T w g n cap L) (i : Nat) (hi : i < L.length) :
    w.cell? ⟨g, i * 4, none⟩ = some (k0 L[i].2) ∧ w.cell? ⟨g, i * 4 + 1, none⟩ = some (k1 L[i].2) ∧ w.cell? ⟨g, i * 4 + 2, none⟩ = some (k2 L[i].2) ∧ w.cell? ⟨g, i * 4 + 3, none⟩ = some (k3 L[i].2) := by
  have hl := h.len
  have hf := flE_at L i hi
  exact ⟨(h.own.cellAt (i * 4) (by omega)).trans hf.1, (h.own.cellAt (i * 4 + 1) (by omega)).trans hf.2.1, (h.own.cellAt (i * 4 + 2) (by omega)).trans hf.2.2.1, (h.own.cellAt (i * 4 + 3) (by omega)).trans hf.2.2.2⟩
theorem Dat.fz {T : TypeId} {w : World} {g n cap : Nat} {L : List (Nat × EV)} (h : Dat T w g n cap L) (j : Nat) : w.frozen? ⟨g, j, none⟩ = false := h.own.frozenAt j
theorem Dat.below {T : TypeId} {w w' : World} {g n cap : Nat} {L : List (Nat × EV)} (h : Dat T w g n cap L) (hb : Below w.heap.size w w') : Dat T w' g n cap L := by
  refine ⟨⟨h.own.1, ?_⟩, h.len⟩
  rcases h.own.2 with h0 | ⟨g', cap', cur, hv, hb', hg, h3⟩
  · exact .inl h0
  · exact .inr ⟨g', cap', cur, hv, hb', (hb.block g' (Array.getElem?_eq_some_iff.1 hg).1).trans hg, h3⟩
theorem Dat.drew {T : TypeId} {w : World} {g n cap : Nat} {L : List (Nat × EV)} (h : Dat T w g n cap L) : Dat T w.drew g n cap L := ⟨h.own, h.len⟩
/-- two elements are exchanged -/
theorem swapped {A M B : List (Nat × EV)} {u v : Nat × EV} {i j : Nat} (hi : i = A.length) (hj : j = A.length + 1 + M.length) :
    ((A ++ u :: (M ++ v :: B)).set i v).set j u = A ++ v :: (M ++ u :: B) := by
  subst hi hj
  rw [List.set_append_right _ _ (Nat.le_refl _), Nat.sub_self, List.set_cons_zero, List.set_append_right _ _ (by omega),
    show A.length + 1 + M.length - A.length = M.length + 1 by omega, List.set_cons_succ, List.set_append_right _ _ (Nat.le_refl _), Nat.sub_self, List.set_cons_zero]
theorem Dat.swap {T : TypeId} {w : World} {g n cap : Nat} {A M B : List (Nat × EV)} {u v : Nat × EV} (h : Dat T w g n cap (A ++ u :: (M ++ v :: B))) {i j : Nat} (hi : i = A.length) (hj : j = A.length + 1 + M.length) :
    Dat T (putE (putE w g i v.2) g j u.2) g n cap (A ++ v :: (M ++ u :: B)) := by
  have h1 := (h.put i v.1 v.2).put j u.1 u.2
  rwa [swapped hi hj] at h1
/-- what lies at a place -/
theorem Dat.at {T : TypeId} {w : World} {g n cap : Nat} {A B : List (Nat × EV)} {u : Nat × EV} (h : Dat T w g n cap (A ++ u :: B)) {i : Nat} (hi : i = A.length) :
    i < n ∧ w.cell? ⟨g, i * 4, none⟩ = some (k0 u.2) ∧ w.cell? ⟨g, i * 4 + 1, none⟩ = some (k1 u.2) ∧ w.cell? ⟨g, i * 4 + 2, none⟩ = some (k2 u.2) ∧ w.cell? ⟨g, i * 4 + 3, none⟩ = some (k3 u.2) := by
  subst hi
  have hl := h.len
  have hlt : A.length < (A ++ u :: B).length := by simp
  have hc := h.cells A.length hlt
  have he : (A ++ u :: B)[A.length] = u := by simp
  rw [he] at hc
  exact ⟨by omega, hc⟩
end Go.Proofs.YtpnnojepbmpfiaaDoor
