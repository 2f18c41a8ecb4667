/- ConstMatches, the law's words in memory: a row of pieces that the call owns, and a piece with parts that is being built. (Begun; see NOTES.md.) -/
import Derived.Test.YtbgmjmooifjhjaaDoorDiceM
namespace Go.Proofs.YtbgmjmooifjhjaaDoor
open Go.RowKit

/-- a piece, as it lies -/
structure PQ where
  kind : Int
  text : ByteArray
  parts : Value
  p3 : Option Addr
  p4 : Option Addr
  p5 : Option Addr
  subs : List (Int × ByteArray)
def PQ.cells (p : PQ) : List Value := [.int .i64 p.kind, .string p.text, p.parts, .pointer p.p3, .pointer p.p4, .pointer p.p5]
def rowL (l : List PQ) : List Value := l.flatMap PQ.cells
def PQ.pc (p : PQ) : PC := ⟨p.kind, p.text, p.subs⟩
def subQ (l : List PQ) : List (Int × ByteArray) := l.map fun q => (q.kind, q.text)
theorem rowL_len (l : List PQ) : (rowL l).length = l.length * 6 := by
  induction l with
  | nil => rfl
  | cons p r ih => simp only [rowL, List.flatMap_cons, List.length_append, List.length_cons] at *; rw [ih]; simp [PQ.cells]; omega
theorem rowL_app (l : List PQ) (p : PQ) : rowL (l ++ [p]) = rowL l ++ p.cells := by simp [rowL]
theorem rowL_at (l : List PQ) (j : Nat) (h : j < l.length) (i : Nat) (hi : i < 6) : (rowL l)[j * 6 + i]? = l[j].cells[i]? := by
  induction l generalizing j with
  | nil => simp at h
  | cons p r ih =>
    show (p.cells ++ rowL r)[j * 6 + i]? = _
    have hl : p.cells.length = 6 := rfl
    cases j with
    | zero => rw [List.getElem?_append_left (by omega)]; simp
    | succ j =>
      rw [List.getElem?_append_right (by omega), hl, show (j + 1) * 6 + i - 6 = j * 6 + i by omega]
      exact ih j (by simpa using h)
/-- a row of pieces reads piece by piece -/
theorem row_piece {w : World} {base g cap : Nat} {l : List PQ} (h : w.ownsRow base 51 6 (.slice (some ⟨g, 0, none⟩) l.length cap) l.length (rowL l)) (j : Nat) (hj : j < l.length) : PieceAt w g (0 + j * 6) l[j].kind l[j].text l[j].parts := by
  have hc : ∀ i, i < 6 → w.cell? ⟨g, 0 + j * 6 + i, none⟩ = l[j].cells[i]? := fun i hi => by
    rw [Nat.zero_add, h.cellAt (j * 6 + i) (by omega)]
    exact rowL_at l j hj i hi
  exact ⟨l[j].p3, l[j].p4, l[j].p5, hc 0 (by decide), hc 1 (by decide), hc 2 (by decide), hc 3 (by decide), hc 4 (by decide), hc 5 (by decide)⟩
/-- what is known of a piece of a word -/
structure GoodP (B : Nat) (w : World) (v : Value) (p : PQ) : Prop where
  text : p.text.size ≤ 100
  subs : p.subs.length ≤ 4 ∧ subTot p.subs ≤ 400
  mem : SubM w p.parts p.subs
  far : ∀ q, p.parts.ownBlock = some q → B ≤ q ∧ q < w.heap.size ∧ v.ownBlock ≠ some q
theorem SubM.blocks {w w' : World} {v : Value} {l : List (Int × ByteArray)} (h : SubM w v l) (hb : ∀ q, v.ownBlock = some q → w'.heap[q]? = w.heap[q]?) (hs : w.heap.size ≤ w'.heap.size) : SubM w' v l := by
  obtain ⟨A, c, rfl, h⟩ := h
  refine ⟨A, c, rfl, fun hn => ?_⟩
  obtain ⟨b, off, rfl, hl, hp⟩ := h hn
  refine ⟨b, off, rfl, Nat.lt_of_lt_of_le hl hs, fun j hj => ?_⟩
  obtain ⟨A2, n2, c2, q3, q4, q5, h0, h1, h2, h3, h4, h5⟩ := hp j hj
  have hk : ∀ o, w'.cell? ⟨b, o, none⟩ = w.cell? ⟨b, o, none⟩ := fun o => World.cell?_of_block (a := ⟨b, o, none⟩) (hb b rfl)
  exact ⟨A2, n2, c2, q3, q4, q5, (hk _).trans h0, (hk _).trans h1, (hk _).trans h2, (hk _).trans h3, (hk _).trans h4, (hk _).trans h5⟩
/-- the word that is being built -/
structure WS (b B k : Nat) (a w : World) (v : Value) (l : List PQ) : Prop where
  base : b < B ∧ B ≤ a.heap.size
  db : DB w b B k
  only : Only b a w
  own : w.ownsRow a.heap.size 51 6 v l.length (rowL l)
  good : ∀ p ∈ l, GoodP B w v p
theorem GoodP.blocks {B : Nat} {w w' : World} {v : Value} {p : PQ} (h : GoodP B w v p) (hb : ∀ q, p.parts.ownBlock = some q → w'.heap[q]? = w.heap[q]?) (hs : w.heap.size ≤ w'.heap.size) : GoodP B w' v p :=
  ⟨h.text, h.subs, h.mem.blocks hb hs, fun q hq => ⟨(h.far q hq).1, Nat.lt_of_lt_of_le (h.far q hq).2.1 hs, (h.far q hq).2.2⟩⟩
theorem WS.step {b B k k' : Nat} {a w w' : World} {v : Value} {l : List PQ} (h : WS b B k a w v l) (hd : DB w' b B k') (ho : Only b w w') : WS b B k' a w' v l := by
  have hb := h.base
  refine ⟨hb, hd, h.only.trans ho, own_of_block h.own (fun q hq => ?_), fun p hp => (h.good p hp).blocks (fun q hq => ?_) ho.size⟩
  · have := h.own.lt q hq
    exact ho.block q this.2 (by omega)
  · have := (h.good p hp).far q hq
    exact ho.block q this.2.1 (by omega)
theorem WS.more {b B k k' : Nat} {a w : World} {v : Value} {l : List PQ} (h : WS b B k a w v l) (hk : k ≤ k') : WS b B k' a w v l := ⟨h.base, h.db.more' hk, h.only, h.own, h.good⟩
theorem WS.alloc {b B k : Nat} {a w : World} {v : Value} {l : List PQ} (h : WS b B k a w v l) (o : Obj) : WS b B k a (w.alloc o) v l :=
  h.step (h.db.keep ((Below.refl _ w).alloc (Nat.le_refl _) o)) ((Only.refl b w).alloc o)
theorem WS.drew {b B k : Nat} {a w : World} {v : Value} {l : List PQ} (h : WS b B k a w v l) : WS b B k a w.drew v l :=
  h.step (h.db.keep (Below.refl _ w).drew) (Only.refl b w).drew
/-- a piece is appended -/
theorem WS.append {b B k g1 cap : Nat} {a w w' : World} {v : Value} {l : List PQ} {p : PQ} (h : WS b B k a w v l) (hp : GoodP B w v p)
    (hown : w'.ownsRow a.heap.size 51 6 (.slice (some ⟨g1, 0, none⟩) (l.length + 1) cap) (l.length + 1) (rowL l ++ p.cells)) (hg : w.grownBy w' v.ownBlock) (hat : v.ownBlock = some g1 ∨ g1 = w.heap.size) : WS b B k a w' (.slice (some ⟨g1, 0, none⟩) (l.length + 1) cap) (l ++ [p]) := by
  have hb := h.base
  have hr : ∀ q, v.ownBlock = some q → a.heap.size ≤ q := fun q hq => (h.own.lt q hq).1
  have hgood : ∀ p, GoodP B w v p → GoodP B w' (.slice (some ⟨g1, 0, none⟩) (l.length + 1) cap) p := fun p hp =>
    ⟨hp.text, hp.subs, hp.mem.blocks (fun q hq => hg.block q (hp.far q hq).2.1 (fun e => (hp.far q hq).2.2 e.symm)) hg.size, fun q hq => ⟨(hp.far q hq).1, Nat.lt_of_lt_of_le (hp.far q hq).2.1 hg.size, fun e => by
      have e2 : g1 = q := by simpa [Value.ownBlock] using e
      subst e2
      rcases hat with h1 | h1
      · exact (hp.far _ hq).2.2 h1
      · have := (hp.far _ hq).2.1; omega⟩⟩
  refine ⟨hb, h.db.grown hg (fun q hq => by have := hr q hq; omega), h.only.grown hg hr, ?_, fun q hq => ?_⟩
  · rw [List.length_append, rowL_app]
    exact hown
  · rcases List.mem_append.1 hq with hq | hq
    · exact hgood q (h.good q hq)
    · rw [List.mem_singleton.1 hq]
      exact hgood p hp
/-- a plain piece is good -/
theorem GoodP.plain {B : Nat} {w : World} {v : Value} (kd : Int) (t : ByteArray) (p3 p4 p5 : Option Addr) (ht : t.size ≤ 100) : GoodP B w v ⟨kd, t, .slice none 0 0, p3, p4, p5, []⟩ :=
  ⟨ht, ⟨by simp, by simp [subTot]⟩, ⟨none, 0, rfl, fun h => by simp at h⟩, fun q hq => by simp [Value.ownBlock] at hq⟩
theorem small_text {L : List ByteArray} (h : (L.all fun s => decide (s.size ≤ 100)) = true) {s : ByteArray} (hs : s ∈ L) : s.size ≤ 100 := by
  have := List.all_eq_true.1 h s hs
  simpa using this
theorem WS.grown {b B k : Nat} {a w w' : World} {v : Value} {l : List PQ} {r : Option Nat} (h : WS b B k a w v l) (hg : w.grownBy w' r) (hr : ∀ q, r = some q → a.heap.size ≤ q) (hv : ∀ q, v.ownBlock = some q → r ≠ some q) (hp : ∀ p ∈ l, ∀ q, p.parts.ownBlock = some q → r ≠ some q) : WS b B k a w' v l := by
  have hb := h.base
  refine ⟨hb, h.db.grown hg (fun q hq => by have := hr q hq; omega), h.only.grown hg hr, own_of_block h.own (fun q hq => ?_), fun p hpl => (h.good p hpl).blocks (fun q hq => ?_) hg.size⟩
  · exact hg.block q (h.own.lt q hq).2 (fun e => hv q hq e.symm)
  · exact hg.block q ((h.good p hpl).far q hq).2.1 (fun e => hp p hpl q hq e.symm)
theorem WS.set {b B k g i : Nat} {a w : World} {v : Value} {l : List PQ} (h : WS b B k a w v l) (hga : a.heap.size ≤ g) (hv : ∀ q, v.ownBlock = some q → q < g) (hp : ∀ p ∈ l, ∀ q, p.parts.ownBlock = some q → q < g) (u : Value) : WS b B k a (w.setCell ⟨g, i, none⟩ u) v l := by
  have hb := h.base
  refine ⟨hb, h.db.set_ (by omega) i u, h.only.new hga u, own_of_block h.own (fun q hq => ?_), fun p hpl => (h.good p hpl).blocks (fun q hq => ?_) (by simp [World.setCell])⟩
  · exact heap_setCell_other w ⟨g, i, none⟩ q u (fun e => by have e2 : q = g := e; have := hv q hq; omega)
  · exact heap_setCell_other w ⟨g, i, none⟩ q u (fun e => by have e2 : q = g := e; have := hp p hpl q hq; omega)
/-- a piece with parts that is being built: bp stands in its box, pv is the row of parts -/
structure XS (b B k gx : Nat) (a w : World) (v : Value) (l : List PQ) (bp pv : Value) (subs : List PQ) : Prop where
  ws : WS b B k a w v l
  box : w.heap[gx]? = some (.cells #[.int .i64 4, .string ⟨#[]⟩, bp, .pointer none, .pointer none, .pointer none] 51 (0, 0))
  own : w.ownsRow (gx + 1) 51 6 pv subs.length (rowL subs)
  plain : ∀ q ∈ subs, q.text.size ≤ 100 ∧ ∃ A n c, q.parts = .slice A n c
  far : a.heap.size ≤ gx ∧ (∀ q, v.ownBlock = some q → q < gx) ∧ ∀ p ∈ l, ∀ q, p.parts.ownBlock = some q → q < gx
theorem XS.lt {b B k gx : Nat} {a w : World} {v : Value} {l : List PQ} {bp pv : Value} {subs : List PQ} (h : XS b B k gx a w v l bp pv subs) : gx < w.heap.size := (Array.getElem?_eq_some_iff.1 h.box).1
theorem XS.step {b B k k' gx : Nat} {a w w' : World} {v : Value} {l : List PQ} {bp pv : Value} {subs : List PQ} (h : XS b B k gx a w v l bp pv subs) (hd : DB w' b B k') (ho : Only b w w') : XS b B k' gx a w' v l bp pv subs := by
  have hb := h.ws.base
  have hf := h.far
  exact ⟨h.ws.step hd ho, (ho.block gx h.lt (by omega)).trans h.box, own_of_block h.own (fun q hq => by have := h.own.lt q hq; exact ho.block q this.2 (by omega)), h.plain, hf⟩
theorem XS.more {b B k k' gx : Nat} {a w : World} {v : Value} {l : List PQ} {bp pv : Value} {subs : List PQ} (h : XS b B k gx a w v l bp pv subs) (hk : k ≤ k') : XS b B k' gx a w v l bp pv subs := ⟨h.ws.more hk, h.box, h.own, h.plain, h.far⟩
theorem XS.alloc {b B k gx : Nat} {a w : World} {v : Value} {l : List PQ} {bp pv : Value} {subs : List PQ} (h : XS b B k gx a w v l bp pv subs) (o : Obj) : XS b B k gx a (w.alloc o) v l bp pv subs :=
  h.step (h.ws.db.keep ((Below.refl _ w).alloc (Nat.le_refl _) o)) ((Only.refl b w).alloc o)
theorem XS.drew {b B k gx : Nat} {a w : World} {v : Value} {l : List PQ} {bp pv : Value} {subs : List PQ} (h : XS b B k gx a w v l bp pv subs) : XS b B k gx a w.drew v l bp pv subs :=
  h.step (h.ws.db.keep (Below.refl _ w).drew) (Only.refl b w).drew
/-- a piece with no parts yet -/
theorem XS.start {b B k : Nat} {a w : World} {v : Value} {l : List PQ} (h : WS b B k a w v l) : XS b B k w.heap.size a (w.alloc (.cells #[.int .i64 4, .string ⟨#[]⟩, .slice none 0 0, .pointer none, .pointer none, .pointer none] 51)) v l (.slice none 0 0) (.slice none 0 0) [] :=
  ⟨h.alloc _, heap_alloc_new w _, ⟨rfl, .inl ⟨rfl, rfl⟩⟩, fun q hq => by simp at hq, h.only.size, fun q hq => (h.own.lt q hq).2, fun p hp q hq => ((h.good p hp).far q hq).2.1⟩
theorem XS.look {b B k gx : Nat} {a w : World} {v : Value} {l : List PQ} {bp pv : Value} {subs : List PQ} (h : XS b B k gx a w v l bp pv subs) : (∀ j, w.cell? ⟨gx, j, none⟩ = (#[.int .i64 4, .string ⟨#[]⟩, bp, .pointer none, .pointer none, .pointer none] : Array Value)[j]?) ∧ (∀ j, w.frozen? ⟨gx, j, none⟩ = false) ∧ gx < w.heap.size :=
  ⟨fun j => by simp [World.cell?, h.box], fun j => by simp [World.frozen?, h.box], h.lt⟩
theorem XS.form {b B k gx : Nat} {a w : World} {v : Value} {l : List PQ} {bp pv : Value} {subs : List PQ} (h : XS b B k gx a w v l bp pv subs) : ∃ A c, pv = .slice A subs.length c ∧ (0 < subs.length → ∃ g, A = some ⟨g, 0, none⟩) := by
  rcases h.own.2 with ⟨rfl, h0⟩ | ⟨g, cap, cur, rfl, _⟩
  · exact ⟨none, 0, by rw [h0], fun h => by omega⟩
  · exact ⟨_, cap, rfl, fun _ => ⟨g, rfl⟩⟩
/-- a part is appended: it does not stand in the box yet -/
theorem XS.app {b B k gx g1 cap : Nat} {a w w' : World} {v : Value} {l : List PQ} {bp pv : Value} {subs : List PQ} {q : PQ} (h : XS b B k gx a w v l bp pv subs) (hq : q.text.size ≤ 100 ∧ ∃ A n c, q.parts = .slice A n c)
    (hown : w'.ownsRow (gx + 1) 51 6 (.slice (some ⟨g1, 0, none⟩) (subs.length + 1) cap) (subs.length + 1) (rowL subs ++ q.cells)) (hg : w.grownBy w' pv.ownBlock) : XS b B k gx a w' v l bp (.slice (some ⟨g1, 0, none⟩) (subs.length + 1) cap) (subs ++ [q]) := by
  have hf := h.far
  have hr : ∀ q, pv.ownBlock = some q → gx + 1 ≤ q := fun q hq => (h.own.lt q hq).1
  refine ⟨h.ws.grown hg (fun q hq => by have := hr q hq; omega) (fun q hq e => by have h1 := hr q e; have h2 := hf.2.1 q hq; omega) (fun p hp q hq e => by have h1 := hr q e; have h2 := hf.2.2 p hp q hq; omega), (hg.block gx h.lt (fun e => by have := hr gx e.symm; omega)).trans h.box, ?_, fun p hp => ?_, hf⟩
  · rw [List.length_append, rowL_app]
    exact hown
  · rcases List.mem_append.1 hp with hp | hp
    · exact h.plain p hp
    · rw [List.mem_singleton.1 hp]; exact hq
/-- the row is stored in the box -/
theorem XS.store {b B k gx : Nat} {a w : World} {v : Value} {l : List PQ} {bp pv : Value} {subs : List PQ} (h : XS b B k gx a w v l bp pv subs) : XS b B k gx a (w.setCell ⟨gx, 2, none⟩ pv) v l pv pv subs := by
  have hf := h.far
  refine ⟨h.ws.set hf.1 hf.2.1 hf.2.2 pv, ?_, own_of_block h.own (fun q hq => heap_setCell_other w ⟨gx, 2, none⟩ q pv (fun e => by have e2 : q = gx := e; have := h.own.lt q hq; omega)), h.plain, hf⟩
  rw [heap_setCell_same _ _ _ _ _ _ h.box]
  rfl
theorem subQ_tot (subs : List PQ) (h : ∀ q ∈ subs, q.text.size ≤ 100) : subTot (subQ subs) ≤ subs.length * 100 := by
  induction subs with
  | nil => simp [subQ, subTot]
  | cons p r ih =>
    have h1 := h p List.mem_cons_self
    have h2 := ih (fun q hq => h q (List.mem_cons_of_mem _ hq))
    show p.text.size + subTot (subQ r) ≤ (r.length + 1) * 100
    omega
/-- the piece is good -/
theorem XS.good {b B k gx : Nat} {a w : World} {v : Value} {l : List PQ} {pv : Value} {subs : List PQ} (h : XS b B k gx a w v l pv pv subs) (hn : subs.length ≤ 4) : GoodP B w v ⟨4, ⟨#[]⟩, pv, none, none, none, subQ subs⟩ := by
  have hf := h.far
  have hb := h.ws.base
  have ht := subQ_tot subs (fun q hq => (h.plain q hq).1)
  refine ⟨by show (⟨#[]⟩ : ByteArray).size ≤ 100; decide, ⟨by simp [subQ]; exact hn, by show subTot (subQ subs) ≤ 400; omega⟩, ?_, fun q hq => ⟨by have := h.own.lt q hq; omega, (h.own.lt q hq).2, fun e => by have h1 := h.own.lt q hq; have h2 := hf.2.1 q e; omega⟩⟩
  obtain ⟨A, c, rfl, hA⟩ := h.form
  have hlen : (subQ subs).length = subs.length := by simp [subQ]
  refine ⟨A, c, by show Value.slice A subs.length c = _; rw [← hlen], fun h0 => ?_⟩
  obtain ⟨g, rfl⟩ := hA (by rw [← hlen]; exact h0)
  refine ⟨g, 0, rfl, (h.own.lt g rfl).2, fun j hj => ?_⟩
  have hj2 : j < subs.length := by rw [← hlen]; exact hj
  obtain ⟨A2, n2, c2, he⟩ := (h.plain _ (List.getElem_mem hj2)).2
  have hp := row_piece h.own j hj2
  refine ⟨A2, n2, c2, ?_⟩
  have hs : (subQ subs)[j] = (subs[j].kind, subs[j].text) := by simp [subQ]
  rw [hs, ← he]
  exact hp
theorem pieceInfo : (Tryd.prog.info? 51).map (fun i => (i.zero, i.size, i.bytes)) = some (some (.agg #[.int .i64 0, .string ⟨#[]⟩, .slice none 0 0, .pointer none, .pointer none, .pointer none]), 6, 72) := by kernel_rfl

end Go.Proofs.YtbgmjmooifjhjaaDoor
