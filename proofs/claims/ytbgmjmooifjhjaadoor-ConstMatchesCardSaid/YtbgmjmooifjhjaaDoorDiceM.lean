/- ConstMatches, the frame of the generators: rows that a call owns. (Begun; see NOTES.md.) -/
import Derived.Test.YtbgmjmooifjhjaaDoorDiceD
import Derived.Deep.AppendLies
namespace Go.Proofs.YtbgmjmooifjhjaaDoor
open Go.RowKit

theorem frozen_alloc {w : World} {p : Addr} (h : p.block < w.heap.size) (o : Obj) : (w.alloc o).frozen? p = w.frozen? p := World.frozen?_of_block (((Below.refl _ w).alloc (Nat.le_refl _) o).block p.block h)
theorem own_of_block {w w' : World} {B e s n : Nat} {v : Value} {xs : List Value} (h : w.ownsRow B e s v n xs) (hb : ∀ g, v.ownBlock = some g → w'.heap[g]? = w.heap[g]?) : w'.ownsRow B e s v n xs := by
  refine ⟨h.1, ?_⟩
  rcases h.2 with hn | ⟨g, cap, cur, rfl, h1, h2, h3⟩
  · exact .inl hn
  · exact .inr ⟨g, cap, cur, rfl, h1, (hb g rfl).trans h2, h3⟩
theorem DB.grown {w w' : World} {b B k : Nat} {r : Option Nat} (h : DB w b B k) (hg : w.grownBy w' r) (hr : ∀ q, r = some q → B ≤ q) : DB w' b B k := by
  obtain ⟨A, n, c, i, left, ⟨h0, h0b, h0c⟩, h1, h2⟩ := h
  have hlt := (Array.getElem?_eq_some_iff.1 h1.box).1
  refine ⟨A, n, c, i, left, ⟨h0, Nat.le_trans h0b hg.size, h0c⟩, ⟨(hg.block b hlt (fun e => by have := hr b e.symm; omega)).trans h1.box, fun hn => ?_, h1.cap⟩, h2⟩
  obtain ⟨g', off, rfl, hl, hgb, hx⟩ := h1.raw hn
  have hlt2 : g' < B := h0c hn _ rfl
  refine ⟨g', off, rfl, Nat.lt_of_lt_of_le hl hg.size, hgb, fun j hj => ?_⟩
  obtain ⟨x, hx⟩ := hx j hj
  exact ⟨x, (World.cell?_of_block (a := ⟨g', off + j, none⟩) (hg.block g' hl (fun e => by have := hr g' e.symm; omega))).trans hx⟩
theorem Only.grown {b : Nat} {a w w' : World} {r : Option Nat} (h : Only b a w) (hg : w.grownBy w' r) (hr : ∀ q, r = some q → a.heap.size ≤ q) : Only b a w' :=
  ⟨hg.os.trans h.os, hg.tape.trans h.tape, hg.output.trans h.output, Nat.le_trans h.size hg.size, fun k hk hb => (hg.block k (Nat.lt_of_lt_of_le hk h.size) (fun e => by have := hr k e.symm; omega)).trans (h.block k hk hb)⟩

/-- what building an argument leaves -/
def AP (b B m : Nat) (w : World) (e : Ending) (w' : World) : Prop := ∃ (A : Option Addr) (l c : Nat), e = .returned (.slice A l c) ∧ DB w' b B m ∧ Only b w w'
abbrev CA (b B C : Nat) (d : Int) : Prop := ∀ (sl : Bool) W k', DB W b B k' → k' + C ≤ 4611686018427387904 → Calls Tryd.prog 48 #[.pointer (some ⟨b, 0, none⟩), .int .i64 d, .bool sl] W (AP b B (k' + C) W)
def PP (b B m : Nat) (w : World) (e : Ending) (w' : World) : Prop := ∃ p : Option Addr, e = .returned (.pointer p) ∧ DB w' b B m ∧ Only b w w'


end Go.Proofs.YtbgmjmooifjhjaaDoor
