/- ConstMatches, the law's parameters: one step of the generator. (Begun; see NOTES.md.) -/
import Derived.Test.YtbgmjmooifjhjaaDoorDiceM
import Derived.Deep.RegionLaw
import Derived.Deep.CutBlock
namespace Go.Proofs.YtbgmjmooifjhjaaDoor
open Go.RowKit

/-- the parameter's box -/
def PSh (cs : Array Value) : Prop := ∃ (s : ByteArray) (io : Int) (eo : ByteArray) (en : Int) (em : ByteArray) (A1 : Option Addr) (l1 c1 : Nat) (op : Int) (co : Bool) (A2 : Option Addr) (l2 c2 : Nat) (A3 : Option Addr) (l3 c3 : Nat) (A4 : Option Addr) (l4 c4 : Nat),
  cs = #[.string s, .int .i64 io, .string eo, .int .i64 en, .string em, .slice A1 l1 c1, .int .i64 op, .bool co, .slice A2 l2 c2, .slice A3 l3 c3, .slice A4 l4 c4]
structure PS (b B k g : Nat) (a w : World) (cs : Array Value) : Prop where
  base : b < B ∧ B ≤ a.heap.size ∧ a.heap.size ≤ g
  db : DB w b B k
  only : Only b a w
  box : w.heap[g]? = some (.cells cs 114 (0, 0))
theorem PS.lt {b B k g : Nat} {a w : World} {cs : Array Value} (h : PS b B k g a w cs) : g < w.heap.size := (Array.getElem?_eq_some_iff.1 h.box).1
theorem PS.step {b B k k' g : Nat} {a w w' : World} {cs : Array Value} (h : PS b B k g a w cs) (hd : DB w' b B k') (ho : Only b w w') : PS b B k' g a w' cs := by
  have hb := h.base
  exact ⟨hb, hd, h.only.trans ho, (ho.block g h.lt (by omega)).trans h.box⟩
theorem PS.more {b B k k' g : Nat} {a w : World} {cs : Array Value} (h : PS b B k g a w cs) (hk : k ≤ k') : PS b B k' g a w cs := ⟨h.base, h.db.more' hk, h.only, h.box⟩
theorem PS.alloc {b B k g : Nat} {a w : World} {cs : Array Value} (h : PS b B k g a w cs) (o : Obj) : PS b B k g a (w.alloc o) cs :=
  h.step (h.db.keep ((Below.refl _ w).alloc (Nat.le_refl _) o)) ((Only.refl b w).alloc o)
theorem PS.drew {b B k g : Nat} {a w : World} {cs : Array Value} (h : PS b B k g a w cs) : PS b B k g a w.drew cs :=
  h.step (h.db.keep (Below.refl _ w).drew) (Only.refl b w).drew
theorem PS.set {b B k g i : Nat} {a w : World} {cs : Array Value} (h : PS b B k g a w cs) (v : Value) : PS b B k g a (w.setCell ⟨g, i, none⟩ v) (cs.setIfInBounds i v) := by
  have hb := h.base
  refine ⟨hb, h.db.set_ (by omega) i v, h.only.new hb.2.2 v, ?_⟩
  rw [heap_setCell_same _ _ _ _ _ _ h.box]
/-- what the walk reads of it -/
theorem PS.look {b B k g : Nat} {a w : World} {cs : Array Value} (h : PS b B k g a w cs) : (∀ j, w.cell? ⟨g, j, none⟩ = cs[j]?) ∧ (∀ j, w.frozen? ⟨g, j, none⟩ = false) ∧ g < w.heap.size :=
  ⟨fun j => by simp [World.cell?, h.box], fun j => by simp [World.frozen?, h.box], h.lt⟩
theorem PS.start {b B k : Nat} {w w' : World} {cs : Array Value} (h : DB w' b B k) (hb : b < B ∧ B ≤ w.heap.size) (ho : Only b w w') : PS b B k w'.heap.size w (w'.alloc (.cells cs 114)) cs :=
  ⟨⟨hb.1, hb.2, ho.size⟩, h.keep ((Below.refl _ w').alloc (Nat.le_refl _) _), ho.alloc _, heap_alloc_new w' _⟩

def PX (b B k g : Nat) (a w : World) : Prop := ∃ cs, PSh cs ∧ PS b B k g a w cs
theorem PX.set1 {b B k g : Nat} {a w : World} (h : PX b B k g a w) (x : Int) : PX b B k g a (w.setCell ⟨g, 1, none⟩ (.int .i64 x)) := by
  obtain ⟨cs, ⟨s, io, eo, en, em, A1, l1, c1, op, co, A2, l2, c2, A3, l3, c3, A4, l4, c4, rfl⟩, hp⟩ := h
  exact ⟨_, ⟨s, x, eo, en, em, A1, l1, c1, op, co, A2, l2, c2, A3, l3, c3, A4, l4, c4, rfl⟩, hp.set _⟩
theorem PX.set2 {b B k g : Nat} {a w : World} (h : PX b B k g a w) (x : ByteArray) : PX b B k g a (w.setCell ⟨g, 2, none⟩ (.string x)) := by
  obtain ⟨cs, ⟨s, io, eo, en, em, A1, l1, c1, op, co, A2, l2, c2, A3, l3, c3, A4, l4, c4, rfl⟩, hp⟩ := h
  exact ⟨_, ⟨s, io, x, en, em, A1, l1, c1, op, co, A2, l2, c2, A3, l3, c3, A4, l4, c4, rfl⟩, hp.set _⟩
theorem PX.set3 {b B k g : Nat} {a w : World} (h : PX b B k g a w) (x : Int) : PX b B k g a (w.setCell ⟨g, 3, none⟩ (.int .i64 x)) := by
  obtain ⟨cs, ⟨s, io, eo, en, em, A1, l1, c1, op, co, A2, l2, c2, A3, l3, c3, A4, l4, c4, rfl⟩, hp⟩ := h
  exact ⟨_, ⟨s, io, eo, x, em, A1, l1, c1, op, co, A2, l2, c2, A3, l3, c3, A4, l4, c4, rfl⟩, hp.set _⟩
theorem PX.set4 {b B k g : Nat} {a w : World} (h : PX b B k g a w) (x : ByteArray) : PX b B k g a (w.setCell ⟨g, 4, none⟩ (.string x)) := by
  obtain ⟨cs, ⟨s, io, eo, en, em, A1, l1, c1, op, co, A2, l2, c2, A3, l3, c3, A4, l4, c4, rfl⟩, hp⟩ := h
  exact ⟨_, ⟨s, io, eo, en, x, A1, l1, c1, op, co, A2, l2, c2, A3, l3, c3, A4, l4, c4, rfl⟩, hp.set _⟩
theorem PX.set5 {b B k g : Nat} {a w : World} (h : PX b B k g a w) (A : Option Addr) (l c : Nat) : PX b B k g a (w.setCell ⟨g, 5, none⟩ (.slice A l c)) := by
  obtain ⟨cs, ⟨s, io, eo, en, em, A1, l1, c1, op, co, A2, l2, c2, A3, l3, c3, A4, l4, c4, rfl⟩, hp⟩ := h
  exact ⟨_, ⟨s, io, eo, en, em, A, l, c, op, co, A2, l2, c2, A3, l3, c3, A4, l4, c4, rfl⟩, hp.set _⟩
theorem PX.set6 {b B k g : Nat} {a w : World} (h : PX b B k g a w) (x : Int) : PX b B k g a (w.setCell ⟨g, 6, none⟩ (.int .i64 x)) := by
  obtain ⟨cs, ⟨s, io, eo, en, em, A1, l1, c1, op, co, A2, l2, c2, A3, l3, c3, A4, l4, c4, rfl⟩, hp⟩ := h
  exact ⟨_, ⟨s, io, eo, en, em, A1, l1, c1, x, co, A2, l2, c2, A3, l3, c3, A4, l4, c4, rfl⟩, hp.set _⟩
theorem PX.set7 {b B k g : Nat} {a w : World} (h : PX b B k g a w) (x : Bool) : PX b B k g a (w.setCell ⟨g, 7, none⟩ (.bool x)) := by
  obtain ⟨cs, ⟨s, io, eo, en, em, A1, l1, c1, op, co, A2, l2, c2, A3, l3, c3, A4, l4, c4, rfl⟩, hp⟩ := h
  exact ⟨_, ⟨s, io, eo, en, em, A1, l1, c1, op, x, A2, l2, c2, A3, l3, c3, A4, l4, c4, rfl⟩, hp.set _⟩
theorem PX.set8 {b B k g : Nat} {a w : World} (h : PX b B k g a w) (A : Option Addr) (l c : Nat) : PX b B k g a (w.setCell ⟨g, 8, none⟩ (.slice A l c)) := by
  obtain ⟨cs, ⟨s, io, eo, en, em, A1, l1, c1, op, co, A2, l2, c2, A3, l3, c3, A4, l4, c4, rfl⟩, hp⟩ := h
  exact ⟨_, ⟨s, io, eo, en, em, A1, l1, c1, op, co, A, l, c, A3, l3, c3, A4, l4, c4, rfl⟩, hp.set _⟩
theorem PX.set9 {b B k g : Nat} {a w : World} (h : PX b B k g a w) (A : Option Addr) (l c : Nat) : PX b B k g a (w.setCell ⟨g, 9, none⟩ (.slice A l c)) := by
  obtain ⟨cs, ⟨s, io, eo, en, em, A1, l1, c1, op, co, A2, l2, c2, A3, l3, c3, A4, l4, c4, rfl⟩, hp⟩ := h
  exact ⟨_, ⟨s, io, eo, en, em, A1, l1, c1, op, co, A2, l2, c2, A, l, c, A4, l4, c4, rfl⟩, hp.set _⟩
theorem PX.set10 {b B k g : Nat} {a w : World} (h : PX b B k g a w) (A : Option Addr) (l c : Nat) : PX b B k g a (w.setCell ⟨g, 10, none⟩ (.slice A l c)) := by
  obtain ⟨cs, ⟨s, io, eo, en, em, A1, l1, c1, op, co, A2, l2, c2, A3, l3, c3, A4, l4, c4, rfl⟩, hp⟩ := h
  exact ⟨_, ⟨s, io, eo, en, em, A1, l1, c1, op, co, A2, l2, c2, A3, l3, c3, A, l, c, rfl⟩, hp.set _⟩
theorem PX.step {b B k k' g : Nat} {a w w' : World} (h : PX b B k g a w) (hd : DB w' b B k') (ho : Only b w w') : PX b B k' g a w' := by
  obtain ⟨cs, hc, hp⟩ := h
  exact ⟨cs, hc, hp.step hd ho⟩
theorem PX.more {b B k k' g : Nat} {a w : World} (h : PX b B k g a w) (hk : k ≤ k') : PX b B k' g a w := by
  obtain ⟨cs, hc, hp⟩ := h
  exact ⟨cs, hc, hp.more hk⟩
theorem PX.alloc {b B k g : Nat} {a w : World} (h : PX b B k g a w) (o : Obj) : PX b B k g a (w.alloc o) := by
  obtain ⟨cs, hc, hp⟩ := h
  exact ⟨cs, hc, hp.alloc o⟩
theorem PX.db {b B k g : Nat} {a w : World} (h : PX b B k g a w) : DB w b B k := by
  obtain ⟨cs, hc, hp⟩ := h
  exact hp.db
theorem PX.only {b B k g : Nat} {a w : World} (h : PX b B k g a w) : Only b a w := by
  obtain ⟨cs, hc, hp⟩ := h
  exact hp.only

/-- a parameter with one expression -/
structure TX (b B k g gx : Nat) (a w : World) (xs : List Value) : Prop where
  px : PX b B k g a w
  cell : w.cell? ⟨g, 10, none⟩ = some (.slice (some ⟨gx, 0, none⟩) 1 1)
  own : w.ownsRow B 76 4 (.slice (some ⟨gx, 0, none⟩) 1 1) 1 xs
  ne : gx ≠ b ∧ g ≠ b ∧ gx ≠ g ∧ g < w.heap.size ∧ gx < w.heap.size ∧ B ≤ g ∧ B ≤ gx ∧ a.heap.size ≤ g ∧ a.heap.size ≤ gx ∧ B ≤ w.heap.size ∧ a.heap.size ≤ w.heap.size
  fz : w.frozen? ⟨g, 10, none⟩ = false
theorem TX.step {b B k k' g gx : Nat} {a w w' : World} {xs : List Value} (h : TX b B k g gx a w xs) (hd : DB w' b B k') (ho : Only b w w') : TX b B k' g gx a w' xs := by
  have hn := h.ne
  refine ⟨h.px.step hd ho, (ho.cell hn.2.2.2.1 hn.2.1).trans h.cell, own_of_block h.own (fun q hq => ?_), ⟨hn.1, hn.2.1, hn.2.2.1, Nat.lt_of_lt_of_le hn.2.2.2.1 ho.size, Nat.lt_of_lt_of_le hn.2.2.2.2.1 ho.size, hn.2.2.2.2.2.1, hn.2.2.2.2.2.2.1, hn.2.2.2.2.2.2.2.1, hn.2.2.2.2.2.2.2.2.1, Nat.le_trans hn.2.2.2.2.2.2.2.2.2.1 ho.size, Nat.le_trans hn.2.2.2.2.2.2.2.2.2.2 ho.size⟩, (World.frozen?_of_block (a := ⟨g, 10, none⟩) (ho.block g hn.2.2.2.1 hn.2.1)).trans h.fz⟩
  have : gx = q := by simpa [Value.ownBlock] using hq
  subst this
  exact ho.block gx hn.2.2.2.2.1 hn.1
theorem TX.alloc {b B k g gx : Nat} {a w : World} {xs : List Value} (h : TX b B k g gx a w xs) (o : Obj) : TX b B k g gx a (w.alloc o) xs :=
  h.step (h.px.db.keep ((Below.refl _ w).alloc (Nat.le_refl _) o)) ((Only.refl b w).alloc o)
theorem TX.drew {b B k g gx : Nat} {a w : World} {xs : List Value} (h : TX b B k g gx a w xs) : TX b B k g gx a w.drew xs :=
  h.step (h.px.db.keep (Below.refl _ w).drew) (Only.refl b w).drew
theorem TX.start {b B k g : Nat} {a w : World} {cs : Array Value} (h : PS b B k g a w cs) (hs : PSh cs) (ys : Array Value) (hy : ys.size = 4) : TX b B k g w.heap.size a ((w.setCell ⟨g, 10, none⟩ (.slice (some ⟨w.heap.size, 0, none⟩) 1 1)).alloc (.cells ys 76)) ys.toList := by
  have hb := h.base
  have hl := h.lt
  have hd := h.db.lt
  have hx := h.db.base
  have hx2 : PX b B k g a w := ⟨cs, hs, h⟩
  have hs2 : (w.setCell ⟨g, 10, none⟩ (.slice (some ⟨w.heap.size, 0, none⟩) 1 1)).heap.size = w.heap.size := by simp [World.setCell]
  have hfz := (h.set (i := 10) (.slice (some ⟨w.heap.size, 0, none⟩) 1 1)).look.2.1 10
  have hsz := h.only.size
  refine ⟨(hx2.set10 _ _ _).alloc _, some_alloc ?_ _, ?_, ⟨by omega, by omega, by omega, ?_, ?_, by omega, hx.2, by omega, by omega, ?_, ?_⟩, ?_⟩
  · have h2 := (h.set (i := 10) (.slice (some ⟨w.heap.size, 0, none⟩) 1 1)).look.1 10
    obtain ⟨s, io, eo, en, em, A1, l1, c1, op, co, A2, l2, c2, A3, l3, c3, A4, l4, c4, rfl⟩ := hs
    exact h2
  · have := World.ownsRow_lit (base := B) (e := 76) (size := 4) (w.setCell ⟨g, 10, none⟩ (.slice (some ⟨w.heap.size, 0, none⟩) 1 1)) ys 1 (by rw [hs2]; exact hx.2) (by decide) (by rw [hy])
    rw [hs2] at this
    exact this
  · simp [World.setCell]; omega
  · simp [World.setCell]
  · simp [World.setCell]; omega
  · simp [World.setCell]; omega
  · exact (frozen_alloc (by simpa [World.setCell] using hl) _).trans hfz
/-- a second expression was appended -/
structure T2 (b B k g g1 : Nat) (a w : World) : Prop where
  db : DB w b B k
  only : Only b a w
  ne : g1 ≠ g ∧ B ≤ g1 ∧ a.heap.size ≤ g1 ∧ B ≤ g ∧ a.heap.size ≤ g ∧ g < w.heap.size ∧ g1 < w.heap.size
  c10 : ∃ v, w.cell? ⟨g, 10, none⟩ = some v
  z10 : w.frozen? ⟨g, 10, none⟩ = false
  c4 : ∃ v, w.cell? ⟨g1, 4, none⟩ = some v
  c5 : ∃ v, w.cell? ⟨g1, 5, none⟩ = some v
  c6 : ∃ v, w.cell? ⟨g1, 6, none⟩ = some v
  c7 : ∃ v, w.cell? ⟨g1, 7, none⟩ = some v
  zz : ∀ j, w.frozen? ⟨g1, j, none⟩ = false
theorem TX.grown {b B k g gx g1 cap : Nat} {a w w' : World} {x0 x1 x2 x3 y0 y1 y2 y3 : Value} (h : TX b B k g gx a w [x0, x1, x2, x3]) (hown : w'.ownsRow B 76 4 (.slice (some ⟨g1, 0, none⟩) (1 + 1) cap) (1 + 1) ([x0, x1, x2, x3] ++ [y0, y1, y2, y3])) (hg : w.grownBy w' (some gx))
    (hat : (some gx = some g1) ∨ g1 = w.heap.size) (hlt : g1 < w'.heap.size) : T2 b B k g g1 a w' := by
  have hn := h.ne
  have h1 : ∀ q, some gx = some q → B ≤ q := fun q hq => by injection hq with hq; omega
  have h2 : ∀ q, some gx = some q → a.heap.size ≤ q := fun q hq => by injection hq with hq; omega
  have h3 : some g ≠ some gx := fun e => by injection e with e; omega
  have hg1 : g1 = gx ∨ g1 = w.heap.size := hat.imp (fun e => by simpa using e.symm) id
  have hc : ∀ j, j < 8 → w'.cell? ⟨g1, j, none⟩ = [x0, x1, x2, x3, y0, y1, y2, y3][j]? := fun j hj => hown.cellAt j (by omega)
  exact ⟨h.px.db.grown hg h1, h.px.only.grown hg h2, ⟨by omega, by omega, by omega, by omega, by omega, Nat.lt_of_lt_of_le hn.2.2.2.1 hg.size, hlt⟩,
    ⟨_, (hg.cell_far ⟨g, 10, none⟩ hn.2.2.2.1 h3).trans h.cell⟩,
    (hg.frozen_far ⟨g, 10, none⟩ hn.2.2.2.1 h3).trans h.fz,
    ⟨_, hc 4 (by decide)⟩, ⟨_, hc 5 (by decide)⟩, ⟨_, hc 6 (by decide)⟩, ⟨_, hc 7 (by decide)⟩, fun j => hown.frozenAt j⟩
theorem T2.fin {b B k g g1 : Nat} {a w : World} (h : T2 b B k g g1 a w) (v0 v1 v2 v3 v : Value) : DB (((((w.setCell ⟨g1, 4, none⟩ v0).setCell ⟨g1, 5, none⟩ v1).setCell ⟨g1, 6, none⟩ v2).setCell ⟨g1, 7, none⟩ v3).setCell ⟨g, 10, none⟩ v) b B k ∧ Only b a (((((w.setCell ⟨g1, 4, none⟩ v0).setCell ⟨g1, 5, none⟩ v1).setCell ⟨g1, 6, none⟩ v2).setCell ⟨g1, 7, none⟩ v3).setCell ⟨g, 10, none⟩ v) := by
  have hn := h.ne
  exact ⟨((((h.db.set_ hn.2.1 4 v0).set_ hn.2.1 5 v1).set_ hn.2.1 6 v2).set_ hn.2.1 7 v3).set_ hn.2.2.2.1 10 v, ((((h.only.new hn.2.2.1 v0).new hn.2.2.1 v1).new hn.2.2.1 v2).new hn.2.2.1 v3).new hn.2.2.2.2.1 v⟩
theorem T2.fin2 {b B k g g1 : Nat} {a w : World} (h : T2 b B k g g1 a w) (v0 v1 v2 v3 v : Value) : DB (((((w.setCell ⟨g, 10, none⟩ v).setCell ⟨g1, 4, none⟩ v0).setCell ⟨g1, 5, none⟩ v1).setCell ⟨g1, 6, none⟩ v2).setCell ⟨g1, 7, none⟩ v3) b B k ∧ Only b a (((((w.setCell ⟨g, 10, none⟩ v).setCell ⟨g1, 4, none⟩ v0).setCell ⟨g1, 5, none⟩ v1).setCell ⟨g1, 6, none⟩ v2).setCell ⟨g1, 7, none⟩ v3) := by
  have hn := h.ne
  exact ⟨((((h.db.set_ hn.2.2.2.1 10 v).set_ hn.2.1 4 v0).set_ hn.2.1 5 v1).set_ hn.2.1 6 v2).set_ hn.2.1 7 v3, ((((h.only.new hn.2.2.2.2.1 v).new hn.2.2.1 v0).new hn.2.2.1 v1).new hn.2.2.1 v2).new hn.2.2.1 v3⟩
theorem T2.fin_ {b B k m g g1 : Nat} {a w : World} (h : T2 b B k g g1 a w) (v0 v1 v2 v3 v : Value) (hk : k ≤ m) : DB (((((w.setCell ⟨g1, 4, none⟩ v0).setCell ⟨g1, 5, none⟩ v1).setCell ⟨g1, 6, none⟩ v2).setCell ⟨g1, 7, none⟩ v3).setCell ⟨g, 10, none⟩ v) b B m ∧ Only b a (((((w.setCell ⟨g1, 4, none⟩ v0).setCell ⟨g1, 5, none⟩ v1).setCell ⟨g1, 6, none⟩ v2).setCell ⟨g1, 7, none⟩ v3).setCell ⟨g, 10, none⟩ v) := ⟨(h.fin v0 v1 v2 v3 v).1.more' hk, (h.fin v0 v1 v2 v3 v).2⟩
theorem T2.fin2_ {b B k m g g1 : Nat} {a w : World} (h : T2 b B k g g1 a w) (v0 v1 v2 v3 v : Value) (hk : k ≤ m) : DB (((((w.setCell ⟨g, 10, none⟩ v).setCell ⟨g1, 4, none⟩ v0).setCell ⟨g1, 5, none⟩ v1).setCell ⟨g1, 6, none⟩ v2).setCell ⟨g1, 7, none⟩ v3) b B m ∧ Only b a (((((w.setCell ⟨g, 10, none⟩ v).setCell ⟨g1, 4, none⟩ v0).setCell ⟨g1, 5, none⟩ v1).setCell ⟨g1, 6, none⟩ v2).setCell ⟨g1, 7, none⟩ v3) := ⟨(h.fin2 v0 v1 v2 v3 v).1.more' hk, (h.fin2 v0 v1 v2 v3 v).2⟩
theorem exprInfo : (Tryd.prog.info? 76).map (fun i => (i.zero, i.size, i.bytes)) = some (some (.agg #[.string ⟨#[]⟩, .int .i64 0, .string ⟨#[]⟩, .slice none 0 0]), 4, 64) := by kernel_rfl

set_option maxRecDepth 100000 in
set_option maxHeartbeats 6400000 in
theorem param_step (b B k C : Nat) (deep : Int) (w : World) (h : DB w b B k) (hk : k + 3 * C + 20 ≤ 4611686018427387904) (hdp : -100 ≤ deep) (hdp2 : deep ≤ 100)
    (hA : CA b B C (deep - 1)) (hE : CE b B C (deep - 2)) :
    Calls Tryd.prog 30 #[.pointer (some ⟨b, 0, none⟩), .int .i64 deep] w (PP b B (k + 3 * C + 20) w) := by
  have hbase := h.base
  have e1 : IntKind.i64.wrap (deep - 1) = deep - 1 := IntWalk.i64_in _ (by omega)
  have e2 : IntKind.i64.wrap (deep - 2) = deep - 2 := IntWalk.i64_in _ (by omega)
  have HK : Hid (k + C + 4 + C + 1 + C ≤ k + 3 * C + 20) := Lib.hid (by omega)
  have HA := Lib.hid hA
  have HE := Lib.hid hE
  have HW := Lib.hid h
  clear h hA hE
  go_enter Tryd.func30, Tryd.ntmps30
  go_wp2_with fail
  refine (of_b b B k [⟨#[120]⟩, ⟨#[121]⟩, ⟨#[108]⟩, ⟨#[97, 98, 99]⟩, ⟨#[49]⟩, ⟨#[50]⟩, ⟨#[49, 50]⟩, ⟨#[64]⟩, ⟨#[42]⟩, ⟨#[35]⟩, ⟨#[63]⟩, ⟨#[45]⟩, ⟨#[36]⟩, ⟨#[33]⟩, ⟨#[48]⟩, ⟨#[72, 79, 77, 69]⟩] _ w HW.out (by omega) (by decide) (by decide) rfl).mono ?_
  rintro e w2 ⟨s, rfl, hs, hd2, ho2⟩
  have HP := Lib.hid (PS.start hd2 hbase ho2 (cs := #[.string s, .int .i64 0, .string ⟨#[]⟩, .int .i64 0, .string ⟨#[]⟩, .slice none 0 0, .int .i64 0, .bool false, .slice none 0 0, .slice none 0 0, .slice none 0 0]))
  clear hd2 ho2 hs
  go_upto_region 2 with fail
  have HX : Hid (PX b B (k + 1) w2.heap.size w _) := Lib.hid ⟨_, ⟨s, 0, ⟨#[]⟩, 0, ⟨#[]⟩, none, 0, 0, 0, false, none, 0, 0, none, 0, 0, none, 0, 0, rfl⟩, HP.out⟩
  obtain ⟨cc, zc, lc⟩ := HP.out.look
  clear HP
  generalize w2.alloc (.cells #[.string s, .int .i64 0, .string ⟨#[]⟩, .int .i64 0, .string ⟨#[]⟩, .slice none 0 0, .int .i64 0, .bool false, .slice none 0 0, .slice none 0 0, .slice none 0 0] 114) = w3 at *
  generalize w2.heap.size = g at *
  go_cut [22] (fun s22 wx => ∃ q : Bool, s22 = .bool q ∧ wx = w3)
  case first =>
    have hqq : (s.toList == [108]) = true ∨ ((s.toList == [108]) = false ∧ (s.toList == [120]) = true) ∨ ((s.toList == [108]) = false ∧ (s.toList == [120]) = false) := by cases s.toList == [108] <;> cases s.toList == [120] <;> simp
    rcases hqq with q1 | ⟨q1, q2⟩ | ⟨q1, q2⟩
    · go_wp2_with fail
      go_meet
      exact ⟨true, rfl, rfl⟩
    · go_wp2_with fail
      go_meet
      exact ⟨true, rfl, rfl⟩
    · go_wp2_with fail
      go_meet
      exact ⟨false, rfl, rfl⟩
  case rest =>
    obtain ⟨q, rfl, hw3⟩ := hcut
    subst hw3
    clear cc zc lc
    go_upto_if 22 with fail
    go_cut [] (fun wx => PX b B (k + C + 2) g w wx)
    case first =>
      cases q with
      | false =>
        go_wp2_with fail
        go_meet
        exact HX.out.more (by omega)
      | true =>
        go_wp2_with fail
        refine (roll_b b B (k + 1) 6 _ HX.out.db (by omega) (by omega) (by omega)).mono ?_
        rintro e w4 ⟨r, rfl, _, _, hd4, ho4⟩
        have HX4 := Lib.hid (HX.out.step hd4 ho4)
        clear hd4 ho4 HX
        obtain ⟨cs, ⟨s, io, eo, en, em, A1, l1, c1, op, co, A2, l2, c2, A3, l3, c3, A4, l4, c4, rfl⟩, hp⟩ := HX4.out
        obtain ⟨cc, zc, lc⟩ := hp.look
        clear hp
        cases r0 : (r == 0) with
        | true =>
          have HX5 := Lib.hid (HX4.out.set1 1)
          go_wp2_with fail
          go_meet
          exact HX5.out.more (by omega)
        | false =>
          cases r1 : (r == 1) with
          | true =>
            have HX5 := Lib.hid (HX4.out.set1 2)
            go_wp2_with fail
            go_meet
            exact HX5.out.more (by omega)
          | false =>
            cases r2 : (r == 2) with
            | true =>
              go_wp2_with fail
              refine (HE.out _ (k + 2) HX4.out.db (by omega)).mono ?_
              rintro e w5 ⟨op5, nm5, n5, A5, l5, c5, rfl, hd5, ho5⟩
              have HX5 := Lib.hid (HX4.out.step hd5 ho5)
              clear hd5 ho5 cc zc lc HX4
              obtain ⟨cs, ⟨s, io, eo, en, em, A1, l1, c1, op, co, A2, l2, c2, A3, l3, c3, A4, l4, c4, rfl⟩, hp⟩ := HX5.out
              obtain ⟨cc, zc, lc⟩ := hp.look
              clear hp
              have HX6 := Lib.hid (((((HX5.out.set1 3).set2 op5).set3 n5).set4 nm5).set5 A5 l5 c5)
              go_wp2_with fail
              go_meet
              exact HX6.out.more (by omega)
            | false =>
              go_wp2_with fail
              go_meet
              exact HX4.out.more (by omega)
    case rest =>
      have HX5 := Lib.hid hcut
      clear hcut HX
      go_wp2_with fail
      refine (roll_b b B (k + C + 2) 3 _ HX5.out.db (by omega) (by omega) (by omega)).mono ?_
      rintro e w4 ⟨r, rfl, _, _, hd4, ho4⟩
      have HX6 := Lib.hid (HX5.out.step hd4 ho4)
      clear hd4 ho4 HX5
      cases r0 : (r == 0) with
      | true =>
        go_wp2_with fail
        go_ret
        exact ⟨_, rfl, HX6.out.db.more' (by omega), HX6.out.only⟩
      | false =>
        go_wp2_with fail
        refine (roll_b b B (k + C + 3) 15 _ HX6.out.db (by omega) (by omega) (by omega)).mono ?_
        rintro e w5 ⟨r2, rfl, hr0, hr1, hd5, ho5⟩
        have HX7 := Lib.hid (HX6.out.step hd5 ho5)
        clear hd5 ho5 HX6
        obtain ⟨cs, ⟨s, io, eo, en, em, A1, l1, c1, op, co, A2, l2, c2, A3, l3, c3, A4, l4, c4, rfl⟩, hp⟩ := HX7.out
        obtain ⟨cc, zc, lc⟩ := hp.look
        have HP8 := Lib.hid (hp.set (i := 6) (.int .i64 r2))
        have HX8 := Lib.hid (HX7.out.set6 r2)
        clear hp
        go_upto_block 1 with fail
        clear cc zc lc HX7
        generalize w5.setCell ⟨g, 6, none⟩ (.int .i64 r2) = w6 at *
        obtain ⟨cc, zc, lc⟩ := HP8.out.look
        have cc6 : ∀ j, w6.cell? ⟨g, j, none⟩ = #[Value.string s, .int .i64 io, .string eo, .int .i64 en, .string em, .slice A1 l1 c1, .int .i64 r2, .bool co, .slice A2 l2 c2, .slice A3 l3 c3, .slice A4 l4 c4][j]? := cc
        clear cc HP8
        go_cut [] (fun wx => DB wx b B (k + 3 * C + 20) ∧ Only b w wx)
        case first =>
          have hcase : r2 < 2 ∨ (2 ≤ r2 ∧ r2 ≤ 5) ∨ (6 ≤ r2 ∧ r2 ≤ 9) ∨ (10 ≤ r2 ∧ r2 ≤ 13) ∨ r2 = 14 := by omega
          rcases hcase with h1 | ⟨h1, h2⟩ | ⟨h1, h2⟩ | ⟨h1, h2⟩ | rfl
          · go_wp2_with fail
            go_meet
            exact ⟨HX8.out.db.more' (by omega), HX8.out.only⟩
          · go_wp2_with fail
            refine (roll_b b B (k + C + 4) 2 _ HX8.out.db (by omega) (by omega) (by omega)).mono ?_
            rintro e w7 ⟨r3, rfl, _, _, hd7, ho7⟩
            have HX9 := Lib.hid (HX8.out.step hd7 ho7)
            clear hd7 ho7 cc6 zc lc HX8
            obtain ⟨cs, ⟨s, io, eo, en, em, A1, l1, c1, op, co, A2, l2, c2, A3, l3, c3, A4, l4, c4, rfl⟩, hp⟩ := HX9.out
            obtain ⟨cc, zc, lc⟩ := hp.look
            clear hp
            have HX10 := Lib.hid (HX9.out.set7 (r3 == 0))
            clear HX9
            go_wp2_with fail
            refine (HA.out false _ (k + C + 5) HX10.out.db (by omega)).mono ?_
            rintro e w8 ⟨AA, la, ca, rfl, hda, hoa⟩
            have HX11 := Lib.hid (HX10.out.step hda hoa)
            clear hda hoa
            clear cc zc lc HX10
            obtain ⟨cs, ⟨s, io, eo, en, em, A1, l1, c1, op, co, A2, l2, c2, A3, l3, c3, A4, l4, c4, rfl⟩, hp⟩ := HX11.out
            obtain ⟨cc, zc, lc⟩ := hp.look
            clear hp
            have HX12 := Lib.hid (HX11.out.set8 AA la ca)
            go_wp2_with fail
            go_meet
            exact ⟨HX12.out.db.more' (by omega), HX12.out.only⟩
          · go_wp2_with fail
            refine (HA.out false _ (k + C + 4) HX8.out.db (by omega)).mono ?_
            rintro e w8 ⟨AA, la, ca, rfl, hda, hoa⟩
            have HX11 := Lib.hid (HX8.out.step hda hoa)
            clear hda hoa
            clear cc6 zc lc
            obtain ⟨cs, ⟨s, io, eo, en, em, A1, l1, c1, op, co, A2, l2, c2, A3, l3, c3, A4, l4, c4, rfl⟩, hp⟩ := HX11.out
            obtain ⟨cc, zc, lc⟩ := hp.look
            clear hp
            have HX12 := Lib.hid (HX11.out.set8 AA la ca)
            go_wp2_with fail
            go_meet
            exact ⟨HX12.out.db.more' (by omega), HX12.out.only⟩
          · go_wp2_with fail
            refine (HA.out true _ (k + C + 4) HX8.out.db (by omega)).mono ?_
            rintro e w7 ⟨AA, la, ca, rfl, hda, hoa⟩
            have HX9 := Lib.hid (HX8.out.step hda hoa)
            clear hda hoa
            clear cc6 zc lc HX8
            go_wp2_with fail
            refine (HA.out false _ (k + C + 4 + C) HX9.out.db (by omega)).mono ?_
            rintro e w8 ⟨AB, lb, cb, rfl, hda, hoa⟩
            have HX11 := Lib.hid (HX9.out.step hda hoa)
            clear hda hoa
            obtain ⟨cs, ⟨s, io, eo, en, em, A1, l1, c1, op, co, A2, l2, c2, A3, l3, c3, A4, l4, c4, rfl⟩, hp⟩ := HX11.out
            obtain ⟨cc, zc, lc⟩ := hp.look
            clear hp
            have HX12 := Lib.hid ((HX11.out.set8 AA la ca).set9 AB lb cb)
            go_wp2_with fail
            go_meet
            exact ⟨HX12.out.db.more' (by omega), HX12.out.only⟩
          · go_wp2_with fail
            refine (HE.out _ (k + C + 4) HX8.out.db (by omega)).mono ?_
            rintro e w7 ⟨op5, nm5, n5, A5, l5, c5, rfl, hd5, ho5⟩
            have HX9 := Lib.hid (HX8.out.step hd5 ho5)
            clear hd5 ho5 cc6 zc lc HX8
            obtain ⟨cs, ⟨s, io, eo, en, em, A1, l1, c1, op, co, A2, l2, c2, A3, l3, c3, A4, l4, c4, rfl⟩, hp⟩ := HX9.out
            obtain ⟨cc, zc, lc⟩ := hp.look
            have HT := Lib.hid (TX.start hp ⟨s, io, eo, en, em, A1, l1, c1, op, co, A2, l2, c2, A3, l3, c3, A4, l4, c4, rfl⟩ #[.string op5, .int .i64 n5, .string nm5, .slice A5 l5 c5] rfl)
            clear hp
            go_upto_region 22 with fail
            generalize (w7.setCell ⟨g, 10, none⟩ (.slice (some ⟨w7.heap.size, 0, none⟩) 1 1)).alloc (.cells #[.string op5, .int .i64 n5, .string nm5, .slice A5 l5 c5] 76) = w8 at *
            generalize w7.heap.size = gx at *
            clear cc zc lc HX9
            go_wp2_with fail
            refine (roll_b b B (k + C + 4 + C) 2 _ HT.out.px.db (by omega) (by omega) (by omega)).mono ?_
            rintro e w9 ⟨r3, rfl, _, _, hd9, ho9⟩
            have HT9 := Lib.hid (HT.out.step hd9 ho9)
            clear hd9 ho9 HT
            cases r0 : (r3 == 0) with
            | false =>
              go_wp2_with fail
              go_meet
              exact ⟨HT9.out.px.db.more' (by omega), HT9.out.px.only⟩
            | true =>
              go_upto_region 23 with fail
              have cl := HT9.out.cell
              obtain ⟨_, _, _, lg, lx, _, _⟩ := HT9.out.ne
              have HTd := Lib.hid HT9.out.drew
              obtain ⟨i0, hi, hz0, hz1, hz2⟩ := info_parts exprInfo
              have hneb : w9.drew.heap.size ≠ b := by have := HTd.out.px.db.lt; omega
              go_region_law (first
                | (go_simp; go_at_call 28; refine (HE.out _ (k + C + 4 + C + 1) ?db (by omega)).mono ?_; (case db => first | (with_reducible exact HTd.out.px.db) | (with_reducible exact (HTd.out.alloc _).px.db) | (with_reducible exact ((HT9.out.alloc _).drew).px.db)); rintro e w10 ⟨op6, nm6, n6, A6, l6, c6, rfl, hd10, ho10⟩; (first | (have HT10 := Lib.hid (HTd.out.step hd10 ho10)) | (have HT10 := Lib.hid ((HTd.out.alloc _).step hd10 ho10); have HL10 : Hid (w10.heap[w9.drew.heap.size]? = some (.cells #[.string ⟨#[]⟩, .int .i64 0, .string ⟨#[]⟩, .slice none 0 0] 76 (0, 0))) := Lib.hid ((ho10.block _ (by simp) hneb).trans (heap_alloc_new w9.drew _))) | (have HT10 := Lib.hid ((HT9.out.alloc _).drew.step hd10 ho10); have HL10 : Hid (w10.heap[w9.heap.size]? = some (.cells #[.string ⟨#[]⟩, .int .i64 0, .string ⟨#[]⟩, .slice none 0 0] 76 (0, 0))) := Lib.hid ((ho10.block w9.heap.size (by show w9.heap.size < (w9.alloc _).heap.size; simp) hneb).trans (heap_alloc_new w9 _)))); have cl2 := HT10.out.cell; obtain ⟨_, _, _, lg2, lx2, _⟩ := HT10.out.ne; clear hd10 ho10)
                | (refine step_append_lies _ rfl (.tmp 149) (.tmp 155) 74 (by rfl) B 76 i0 _ 4 64 Tryd.underlying74 hi hz0 hz1 hz2 rfl (by decide) (.slice (some ⟨gx, 0, none⟩) 1 1) 1 [.string op5, .int .i64 n5, .string nm5, .slice A5 l5 c5] (by rfl) (by first | exact (HT10.out.alloc _).own | exact HT10.out.own) _ 1 1 [.string ⟨#[]⟩, .int .i64 0, .string ⟨#[]⟩, .slice none 0 0] (by rfl) rfl (by first | exact World.news_of_block HL10.out | exact World.news_of_block (heap_alloc_new _ _)) (by intro u hu; simp at hu; rcases hu with rfl | rfl | rfl | rfl <;> rfl) (by decide) (by decide) (by decide) (by first | exact (HT10.out.alloc _).ne.2.2.2.2.2.2.2.2.2.1 | exact HT10.out.ne.2.2.2.2.2.2.2.2.2.1) _ rfl ?_; intro g1 cap w11 hown hgrow hat hlt; (first | (have H2 := Lib.hid (TX.grown (HT10.out.alloc _) hown hgrow hat hlt)) | (have H2 := Lib.hid (TX.grown HT10.out hown hgrow hat hlt))); obtain ⟨v10, q10⟩ := H2.out.c10; have z10 := H2.out.z10; obtain ⟨v4, q4⟩ := H2.out.c4; obtain ⟨v5, q5⟩ := H2.out.c5; obtain ⟨v6, q6⟩ := H2.out.c6; obtain ⟨v7, q7⟩ := H2.out.c7; have zz := H2.out.zz; obtain ⟨j1, _, _, _, _, j6, j7⟩ := H2.out.ne; clear hown hgrow hat hlt))
              all_goals (go_wp2_with fail; go_meet; first | (with_reducible exact T2.fin_ H2.out _ _ _ _ _ HK.out) | (with_reducible exact T2.fin2_ H2.out _ _ _ _ _ HK.out))
        case rest =>
          have HF := Lib.hid hcut
          clear hcut
          go_wp2_with fail
          go_ret
          exact ⟨_, rfl, HF.out.1, HF.out.2⟩

end Go.Proofs.YtbgmjmooifjhjaaDoor
