/- The tree's lists: what is changed, block by block. -/
import Derived.Test.YtclhdppepopgeaaGreatDoorTrMap
namespace Go.Proofs.YtclhdppepopgeaaGreatDoor
open Go.RowKit

/-- nothing is changed but the blocks of a kind, and what is new -/
structure Fx (S : Nat → Prop) (w w' : World) : Prop where
  b0 : Below 0 w w'
  block : ∀ b, b < w.heap.size → ¬ S b → w'.heap[b]? = w.heap[b]?
theorem Fx.refl (S : Nat → Prop) (w : World) : Fx S w w := ⟨Below.refl _ _, fun _ _ _ => rfl⟩
theorem Fx.trans {S : Nat → Prop} {w w1 w2 : World} (h : Fx S w w1) (k : Fx S w1 w2) : Fx S w w2 :=
  ⟨h.b0.trans k.b0, fun b hb hS => (k.block b (Nat.lt_of_lt_of_le hb h.b0.size) hS).trans (h.block b hb hS)⟩
theorem Fx.mono {S S' : Nat → Prop} {w w' : World} (h : Fx S w w') (hS : ∀ b, S b → S' b) : Fx S' w w' := ⟨h.b0, fun b hb hn => h.block b hb (fun hs => hn (hS b hs))⟩
theorem Fx.mono' {S S' : Nat → Prop} {w w' : World} (h : Fx S w w') (hS : ∀ b, b < w.heap.size → S b → S' b) : Fx S' w w' := ⟨h.b0, fun b hb hn => h.block b hb (fun hs => hn (hS b hb hs))⟩
theorem Fx.of_below {S : Nat → Prop} {w w' : World} (h : Below w.heap.size w w') : Fx S w w' := ⟨h.mono (Nat.zero_le _), fun b hb _ => h.block b hb⟩
theorem Fx.drew (S : Nat → Prop) (w : World) : Fx S w w.drew := Fx.of_below (Below.refl _ w).drew
theorem Fx.alloc (S : Nat → Prop) (w : World) (o : Obj) : Fx S w (w.alloc o) := Fx.of_below ((Below.refl _ w).alloc (Nat.le_refl _) o)
theorem Fx.hset {S : Nat → Prop} (w : World) {r : Nat} (hr : S r) (o : Obj) : Fx S w (hset w r o) := ⟨below_hset (Below.refl _ _) (Nat.zero_le _) _, fun _ _ hn => hset_other (fun e => hn (e ▸ hr))⟩
theorem Fx.setCell {S : Nat → Prop} (w : World) {r : Nat} (hr : S r) (i : Nat) (v : Value) : Fx S w (w.setCell ⟨r, i, none⟩ v) := ⟨⟨rfl, rfl, rfl, by simp [World.setCell], fun _ h => absurd h (Nat.not_lt_zero _)⟩, fun b _ hn => heap_setCell_other w ⟨r, i, none⟩ b v (fun e => hn (by have e2 : b = r := e; rw [e2]; exact hr))⟩
theorem Fx.below {S : Nat → Prop} {B : Nat} {w w' : World} (h : Fx S w w') (hS : ∀ b, S b → B ≤ b) (hB : B ≤ w.heap.size) : Below B w w' :=
  ⟨h.b0.os, h.b0.tape, h.b0.output, h.b0.size, fun b hb => h.block b (by omega) (fun hs => by have := hS b hs; omega)⟩
theorem Fx.at {S : Nat → Prop} {w w' : World} (h : Fx S w w') {b : Nat} {o : Obj} (hb : w.heap[b]? = some o) (hn : ¬ S b) : w'.heap[b]? = some o := (h.block b (Array.getElem?_eq_some_iff.1 hb).1 hn).trans hb
theorem Fx.map {S : Nat → Prop} {w w' : World} (h : Fx S w w') {b : Nat} {L : List (Value × Value)} (hb : MapAt w b L) (hn : ¬ S b) : MapAt w' b L := h.at hb hn
end Go.Proofs.YtclhdppepopgeaaGreatDoor
