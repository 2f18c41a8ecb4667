/- A slice of texts in memory. -/
import Derived.Test.YtiapondfajmkaaaGreatDoorBase
import Derived.ProofKit
import Derived.OpenShut
namespace Go.Proofs.YtiapondfajmkaaaGreatDoor
open Go.RowKit

/-- a block of texts -/
def TB (w : World) (b : Nat) : Prop := ∃ cs fr, w.heap[b]? = some (.cells cs 9 fr)
/-- v is a slice that reads as the texts l, in a block of texts -/
def SL (w : World) (v : Value) (l : List ByteArray) : Prop :=
  ∃ A c, v = .slice A l.length c ∧ l.length ≤ c ∧ ((A = none → c = 0) ∧ ∀ ad, A = some ad → 0 < l.length → TB w ad.block) ∧ (0 < l.length → ∃ b off, A = some ⟨b, off, none⟩ ∧ b < w.heap.size ∧ ∀ j (h : j < l.length), w.cell? ⟨b, off + j, none⟩ = some (.string l[j]))
theorem SL.keep {w w' : World} {v : Value} {l : List ByteArray} (h : SL w v l) (hb : Below w.heap.size w w') : SL w' v l := by
  obtain ⟨A, c, rfl, hc, hA, h⟩ := h
  refine ⟨A, c, rfl, hc, ⟨hA.1, fun ad had hn => ?_⟩, fun hn => ?_⟩
  · obtain ⟨cs, fr, ht⟩ := hA.2 ad had hn
    exact ⟨cs, fr, (hb.block _ (Array.getElem?_eq_some_iff.1 ht).1).trans ht⟩
  obtain ⟨b, off, rfl, hlt, hcell⟩ := h hn
  exact ⟨b, off, rfl, Nat.lt_of_lt_of_le hlt hb.size, fun j hj => (hb.cell (p := ⟨b, off + j, none⟩) hlt).trans (hcell j hj)⟩
theorem SL.of_own {w : World} {base : Nat} {v : Value} {n : Nat} {l : List ByteArray} (h : w.ownsRow base 9 1 v n (l.map Value.string)) : SL w v l := by
  have hn : l.length = n := by have := h.1; simpa using this
  subst hn
  rcases h.2 with ⟨rfl, h0⟩ | ⟨g, cap, cur, rfl, _, hh, hcap, _, _, ht⟩
  · exact ⟨none, 0, by rw [h0], by omega, ⟨fun _ => rfl, fun ad e => by cases e⟩, fun hp => by omega⟩
  · refine ⟨_, cap, rfl, hcap, ⟨fun e => (by cases e), fun ad e _ => (by injection e with e; subst e; exact ⟨cur, _, hh⟩)⟩, fun hp => ⟨g, 0, rfl, (h.lt g rfl).2, fun j hj => ?_⟩⟩
    have := h.cells (g := g) rfl j (.string l[j]) (by simp [hj])
    rwa [WideShapes.add_plain] at this

theorem SL.len {w : World} {A : Option Addr} {n c : Nat} {l : List ByteArray} (h : SL w (.slice A n c) l) : n = l.length := by
  obtain ⟨_, _, e, _⟩ := h; injection e

theorem SL.nil {w : World} {A : Option Addr} {n c : Nat} {l : List ByteArray} (h : SL w (.slice A n c) l) (hA : A = none) : l = [] ∧ c = 0 := by
  obtain ⟨A', c', e, hc, hA', h⟩ := h
  injection e with e1 e2 e3
  subst e1 e2 e3
  refine ⟨?_, hA'.1 hA⟩
  have := hA'.1 hA
  exact List.length_eq_zero_iff.1 (by omega)
theorem SL.empty (w : World) : SL w (.slice none 0 0) [] := ⟨Option.none, 0, rfl, Nat.le_refl _, ⟨fun _ => rfl, fun ad e => by cases e⟩, fun h => absurd h (Nat.lt_irrefl _)⟩
/-- what has changed are no texts -/
structure KeepT (w w' : World) : Prop where
  size : w.heap.size ≤ w'.heap.size
  block : ∀ k, TB w k → w'.heap[k]? = w.heap[k]?
theorem KeepT.refl (w : World) : KeepT w w := ⟨Nat.le_refl _, fun _ _ => rfl⟩
theorem KeepT.trans {a b c : World} (h : KeepT a b) (k : KeepT b c) : KeepT a c :=
  ⟨Nat.le_trans h.size k.size, fun j hj => (k.block j (by obtain ⟨cs, fr, hj⟩ := hj; exact ⟨cs, fr, (h.block j ⟨cs, fr, hj⟩).trans hj⟩)).trans (h.block j hj)⟩
theorem KeepT.below {w w' : World} (hb : Below w.heap.size w w') : KeepT w w' := ⟨hb.size, fun k hk => hb.block k (by obtain ⟨cs, fr, hk⟩ := hk; exact (Array.getElem?_eq_some_iff.1 hk).1)⟩
theorem KeepT.setCell {w : World} {b : Nat} {cs : Array Value} {T : TypeId} {fr : Nat × Nat} (h : w.heap[b]? = some (.cells cs T fr)) (hT : T ≠ 9) (i : Nat) (v : Value) : KeepT w (w.setCell ⟨b, i, none⟩ v) :=
  ⟨by simp [World.setCell], fun k hk => heap_setCell_other w _ k v (fun e => by
    subst e
    obtain ⟨cs', fr', hk⟩ := hk
    rw [h] at hk
    injection hk with hk
    injection hk with _ hk _
    exact hT hk)⟩
theorem SL.keepT {w w' : World} {v : Value} {l : List ByteArray} (h : SL w v l) (hb : KeepT w w') : SL w' v l := by
  obtain ⟨A, c, rfl, hc, hA, h⟩ := h
  refine ⟨A, c, rfl, hc, ⟨hA.1, fun ad had hn => ?_⟩, fun hn => ?_⟩
  · obtain ⟨cs, fr, ht⟩ := hA.2 ad had hn
    exact ⟨cs, fr, (hb.block _ ⟨cs, fr, ht⟩).trans ht⟩
  obtain ⟨b, off, hA2, hlt, hcell⟩ := h hn
  have ht := hA.2 _ hA2 hn
  exact ⟨b, off, hA2, Nat.lt_of_lt_of_le hlt hb.size, fun j hj => (World.cell?_of_block (a := ⟨b, off + j, none⟩) (hb.block b ht)).trans (hcell j hj)⟩
end Go.Proofs.YtiapondfajmkaaaGreatDoor
