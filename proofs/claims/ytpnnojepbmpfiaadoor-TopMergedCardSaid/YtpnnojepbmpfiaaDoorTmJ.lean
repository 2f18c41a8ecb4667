/- TopMerged: the pieces of a merge in memory. -/
import Derived.Test.YtpnnojepbmpfiaaDoorTmI
namespace Go.Proofs.YtpnnojepbmpfiaaDoor
open Go.RowKit

abbrev SV := Option Addr × Nat × Nat
abbrev sv (s : SV) : Value := .slice s.1 s.2.1 s.2.2
/-- a piece's cells: is it a conflict, its lines, the base's, those of both sides -/
abbrev PV := Bool × SV × SV × SV × SV
def prP (l : List PV) : List Value := l.flatMap fun p => [.bool p.1, sv p.2.1, sv p.2.2.1, sv p.2.2.2.1, sv p.2.2.2.2]
theorem prP_len (l : List PV) : (prP l).length = l.length * 5 := by
  induction l with
  | nil => rfl
  | cons b r ih => simp only [prP, List.flatMap_cons, List.length_append, List.length_cons, List.length_nil] at *; omega
theorem prP_app (l m : List PV) : prP (l ++ m) = prP l ++ prP m := by simp [prP]
theorem prP_at (l : List PV) (j : Nat) (h : j < l.length) : (prP l)[j * 5]? = some (.bool l[j].1) ∧ (prP l)[j * 5 + 1]? = some (sv l[j].2.1) ∧ (prP l)[j * 5 + 2]? = some (sv l[j].2.2.1) ∧ (prP l)[j * 5 + 3]? = some (sv l[j].2.2.2.1) ∧ (prP l)[j * 5 + 4]? = some (sv l[j].2.2.2.2) := by
  induction l generalizing j with
  | nil => simp at h
  | cons b r ih =>
    cases j with
    | zero => exact ⟨rfl, rfl, rfl, rfl, rfl⟩
    | succ j =>
      have := ih j (by simpa using h)
      rw [show (j + 1) * 5 = j * 5 + 5 by omega]
      exact this
theorem prP_one (l : List PV) : ∀ u ∈ prP l, u.oneCell' = true := fun u hu => by
  simp only [prP, List.mem_flatMap, List.mem_cons, List.not_mem_nil, or_false] at hu
  obtain ⟨b, _, rfl | rfl | rfl | rfl | rfl⟩ := hu <;> rfl
theorem prP_set (L : List PV) (c : Bool) (s s' b x y : SV) : (prP (L ++ [(c, s, b, x, y)])).set (L.length * 5 + 1) (sv s') = prP (L ++ [(c, s', b, x, y)]) := by
  rw [prP_app, prP_app, List.set_append, if_neg (by rw [prP_len]; omega), prP_len, show L.length * 5 + 1 - L.length * 5 = 1 by omega]
  rfl
theorem pieceInfo : (Tryd.prog.info? 29).map (fun i => (i.zero, i.size, i.bytes)) = some (some (.agg #[.bool false, .slice none 0 0, .slice none 0 0, .slice none 0 0, .slice none 0 0]), 5, 104) := by kernel_rfl
/-- a row of texts that is owned -/
abbrev OwnS (w : World) (B : Nat) (s : SV) (l : List ByteArray) : Prop := w.ownsRow B 9 1 (sv s) l.length (l.map Value.string)
/-- .. in another block than lb -/
structure OwnF (w : World) (B : Nat) (lb : Option Nat) (s : SV) (l : List ByteArray) : Prop where
  own : OwnS w B s l
  ne : (sv s).ownBlock = none ∨ (sv s).ownBlock ≠ lb
theorem OwnF.nil (w : World) (B : Nat) (lb : Option Nat) : OwnF w B lb (none, 0, 0) [] := ⟨World.ownsRow_nil _ _ _ _, .inl rfl⟩
/-- lb stands, or is new -/
def Moved (w : World) (lb lb' : Option Nat) : Prop := lb' = lb ∨ ∃ g, lb' = some g ∧ w.heap.size ≤ g
theorem OwnF.moved {w : World} {B : Nat} {lb lb' : Option Nat} {s : SV} {l : List ByteArray} (h : OwnF w B lb s l) (hm : Moved w lb lb') : OwnF w B lb' s l := by
  refine ⟨h.own, ?_⟩
  rcases hm with rfl | ⟨g, rfl, hg⟩
  · exact h.ne
  · cases hb : (sv s).ownBlock with
    | none => exact .inl rfl
    | some k => exact .inr fun e => by injection e with e; have := (h.own.lt k hb).2; omega
theorem OwnS.new {w : World} {B : Nat} {lb : Option Nat} {s : SV} {l : List ByteArray} (h : OwnS w B s l) (hm : lb = none ∨ ∃ g, lb = some g ∧ w.heap.size ≤ g) : OwnF w B lb s l := by
  refine ⟨h, ?_⟩
  cases hb : (sv s).ownBlock with
  | none => exact .inl rfl
  | some k =>
    refine .inr fun e => ?_
    rcases hm with rfl | ⟨g, rfl, hg⟩
    · cases e
    · injection e with e; have := (h.lt k hb).2; omega
theorem OwnF.grown {w w' : World} {B : Nat} {lb : Option Nat} {s : SV} {l : List ByteArray} (h : OwnF w B lb s l) (hg : w.grownBy w' lb) : OwnF w' B lb s l := ⟨h.own.kept hg h.ne, h.ne⟩
/-- what is done to another block than rows of texts -/
structure Elsewhere (w w' : World) : Prop where
  size : w.heap.size ≤ w'.heap.size
  txt : ∀ k cs, Blk w k 9 cs → w'.heap[k]? = w.heap[k]?
theorem own_else {w w' : World} {B n : Nat} {v : Value} {xs : List Value} (h : w.ownsRow B 9 1 v n xs) (he : Elsewhere w w') : w'.ownsRow B 9 1 v n xs := by
  refine ⟨h.1, ?_⟩
  rcases h.2 with h0 | ⟨g, cap, cur, hv, hb, hg, h3⟩
  · exact .inl h0
  · exact .inr ⟨g, cap, cur, hv, hb, (he.txt g cur hg).trans hg, h3⟩
theorem OwnF.elsew {w w' : World} {B : Nat} {lb : Option Nat} {s : SV} {l : List ByteArray} (h : OwnF w B lb s l) (he : Elsewhere w w') : OwnF w' B lb s l := ⟨own_else h.own he, h.ne⟩
theorem Elsewhere.of_below {w w' : World} (hb : Below w.heap.size w w') : Elsewhere w w' := ⟨hb.size, fun k _ hk => hb.block k (Array.getElem?_eq_some_iff.1 hk).1⟩
theorem Elsewhere.trans {a w w' : World} (h : Elsewhere a w) (k : Elsewhere w w') : Elsewhere a w' := ⟨Nat.le_trans h.size k.size, fun j cs hj => (k.txt j cs ((h.txt j cs hj).trans hj)).trans (h.txt j cs hj)⟩
theorem Elsewhere.set {w : World} {k i : Nat} {v : Value} (hk : ∀ cs, ¬ Blk w k 9 cs) : Elsewhere w (w.setCell ⟨k, i, none⟩ v) :=
  ⟨by simp [World.setCell], fun j cs hj => heap_setCell_other w ⟨k, i, none⟩ j v (fun e => hk cs (by have e2 : j = k := e; rw [← e2]; exact hj))⟩
theorem Elsewhere.grown {w w' : World} {B n s : Nat} {t : TypeId} {v : Value} {xs : List Value} (ho : w.ownsRow B t s v n xs) (ht : t ≠ 9) (hg : w.grownBy w' v.ownBlock) : Elsewhere w w' :=
  ⟨hg.size, fun k _ hk => hg.block k (Array.getElem?_eq_some_iff.1 hk).1 (fun e => own_blk ho hk ht k e.symm rfl)⟩
/-- a piece whose rows stand -/
structure IsF (w : World) (B : Nat) (lb : Option Nat) (p : PV) (q : PC) : Prop where
  conf : p.1 = q.conf
  ln : OwnF w B lb p.2.1 q.ln
  ba : OwnF w B lb p.2.2.1 q.ba
  pa : OwnF w B lb p.2.2.2.1 q.pa
  pb : OwnF w B lb p.2.2.2.2 q.pb
theorem IsF.moved {w : World} {B : Nat} {lb lb' : Option Nat} {p : PV} {q : PC} (h : IsF w B lb p q) (hm : Moved w lb lb') : IsF w B lb' p q := ⟨h.conf, h.ln.moved hm, h.ba.moved hm, h.pa.moved hm, h.pb.moved hm⟩
theorem IsF.grown {w w' : World} {B : Nat} {lb : Option Nat} {p : PV} {q : PC} (h : IsF w B lb p q) (hg : w.grownBy w' lb) : IsF w' B lb p q := ⟨h.conf, h.ln.grown hg, h.ba.grown hg, h.pa.grown hg, h.pb.grown hg⟩
theorem IsF.elsew {w w' : World} {B : Nat} {lb : Option Nat} {p : PV} {q : PC} (h : IsF w B lb p q) (he : Elsewhere w w') : IsF w' B lb p q := ⟨h.conf, h.ln.elsew he, h.ba.elsew he, h.pa.elsew he, h.pb.elsew he⟩
inductive AreF (w : World) (B : Nat) (lb : Option Nat) : List PV → List PC → Prop
  | nil : AreF w B lb [] []
  | cons {p : PV} {q : PC} {P : List PV} {R : List PC} : IsF w B lb p q → AreF w B lb P R → AreF w B lb (p :: P) (q :: R)
theorem AreF.imp {w w' : World} {B : Nat} {lb lb' : Option Nat} (f : ∀ p q, IsF w B lb p q → IsF w' B lb' p q) : ∀ {P : List PV} {R : List PC}, AreF w B lb P R → AreF w' B lb' P R
  | _, _, .nil => .nil
  | _, _, .cons h t => .cons (f _ _ h) (t.imp f)
theorem AreF.len {w : World} {B : Nat} {lb : Option Nat} : ∀ {P : List PV} {R : List PC}, AreF w B lb P R → P.length = R.length
  | _, _, .nil => rfl
  | _, _, .cons _ t => by simp [t.len]
theorem AreF.at {w : World} {B : Nat} {lb : Option Nat} : ∀ {P : List PV} {R : List PC}, AreF w B lb P R → ∀ (i : Nat) (hp : i < P.length) (hr : i < R.length), IsF w B lb P[i] R[i]
  | _, _, .cons h _, 0, _, _ => h
  | _, _, .cons _ t, i + 1, hp, hr => t.at i (by simpa using hp) (by simpa using hr)
/-- the last piece (which may grow, if it is sure) -/
structure IsHead (w : World) (B : Nat) (lb : Option Nat) (p : PV) (q : PC) : Prop where
  conf : p.1 = q.conf
  ln : OwnS w B p.2.1 q.ln
  at_ : q.conf = false → (sv p.2.1).ownBlock = lb
  no : q.conf = true → lb = none
  ba : OwnF w B lb p.2.2.1 q.ba
  pa : OwnF w B lb p.2.2.2.1 q.pa
  pb : OwnF w B lb p.2.2.2.2 q.pb
theorem IsHead.elsew {w w' : World} {B : Nat} {lb : Option Nat} {p : PV} {q : PC} (h : IsHead w B lb p q) (he : Elsewhere w w') : IsHead w' B lb p q := ⟨h.conf, own_else h.ln he, h.at_, h.no, h.ba.elsew he, h.pa.elsew he, h.pb.elsew he⟩
/-- a last piece becomes one among others -/
theorem IsHead.old {w : World} {B : Nat} {lb lb' : Option Nat} {p : PV} {q : PC} (h : IsHead w B lb p q) (hm : lb' = none ∨ ∃ g, lb' = some g ∧ w.heap.size ≤ g) : IsF w B lb' p q :=
  ⟨h.conf, h.ln.new hm, h.ba.own.new hm, h.pa.own.new hm, h.pb.own.new hm⟩
theorem IsF.old {w : World} {B : Nat} {lb lb' : Option Nat} {p : PV} {q : PC} (h : IsF w B lb p q) (hm : lb' = none ∨ ∃ g, lb' = some g ∧ w.heap.size ≤ g) : IsF w B lb' p q :=
  ⟨h.conf, h.ln.own.new hm, h.ba.own.new hm, h.pa.own.new hm, h.pb.own.new hm⟩
/-- all pieces, the last one ahead -/
def RevF (w : World) (B : Nat) (lb : Option Nat) : List PV → List PC → Prop
  | [], [] => True
  | p :: P, q :: R => IsHead w B lb p q ∧ AreF w B lb P R
  | _, _ => False
theorem RevF.elsew {w w' : World} {B : Nat} {lb : Option Nat} (he : Elsewhere w w') : ∀ {P : List PV} {R : List PC}, RevF w B lb P R → RevF w' B lb P R
  | [], [], _ => trivial
  | _ :: _, _ :: _, h => ⟨h.1.elsew he, h.2.imp fun _ _ k => k.elsew he⟩
theorem RevF.old {w : World} {B : Nat} {lb lb' : Option Nat} (hm : lb' = none ∨ ∃ g, lb' = some g ∧ w.heap.size ≤ g) : ∀ {P : List PV} {R : List PC}, RevF w B lb P R → AreF w B lb' P R
  | [], [], _ => .nil
  | _ :: _, _ :: _, h => .cons (h.1.old hm) (h.2.imp fun _ _ k => k.old hm)
theorem RevF.len {w : World} {B : Nat} {lb : Option Nat} : ∀ {P : List PV} {R : List PC}, RevF w B lb P R → P.length = R.length
  | [], [], _ => rfl
  | _ :: _, _ :: _, h => by simp [h.2.len]
/-- the merger: its box at the end of w0, its pieces -/
structure Mg (w0 wx : World) (vp : Value) (P : List PV) (R : List PC) (lb : Option Nat) : Prop where
  below : Below w0.heap.size w0 wx
  box : Blk wx w0.heap.size 47 #[vp]
  own : wx.ownsRow (w0.heap.size + 1) 29 5 vp P.length (prP P)
  pcs : RevF wx (w0.heap.size + 1) lb P.reverse R
theorem Mg.start (w0 : World) : Mg w0 (w0.alloc (.cells #[.slice none 0 0] 47)) (.slice none 0 0) [] [] none :=
  ⟨(Below.refl _ _).alloc (Nat.le_refl _) _, Blk.new w0 _ _ rfl, World.ownsRow_nil _ _ _ _, trivial⟩
theorem Mg.keep {w0 wx w' : World} {vp : Value} {P : List PV} {R : List PC} {lb : Option Nat} (h : Mg w0 wx vp P R lb) (hb : Below wx.heap.size wx w') : Mg w0 w' vp P R lb :=
  ⟨h.below.trans (hb.mono h.below.size), h.box.keep hb, own_keep h.own hb, h.pcs.elsew (.of_below hb)⟩
theorem Mg.lenR {w0 wx : World} {vp : Value} {P : List PV} {R : List PC} {lb : Option Nat} (h : Mg w0 wx vp P R lb) : P.length = R.length := by
  have := h.pcs.len
  rwa [List.length_reverse] at this
/-- regions' blocks stand -/
def RegKept (w w' : World) : Prop := ∀ k cs, Blk w k 51 cs → Blk w' k 51 cs
theorem RegKept.refl (w : World) : RegKept w w := fun _ _ h => h
theorem RegKept.trans {a w w' : World} (h : RegKept a w) (k : RegKept w w') : RegKept a w' := fun j cs hj => k j cs (h j cs hj)
theorem RegKept.of_below {w w' : World} (hb : Below w.heap.size w w') : RegKept w w' := fun _ _ h => h.keep hb
theorem RegKept.grown {w w' : World} {B n s : Nat} {t : TypeId} {v : Value} {xs : List Value} (ho : w.ownsRow B t s v n xs) (ht : t ≠ 51) (hg : w.grownBy w' v.ownBlock) : RegKept w w' :=
  fun k _ hk => (hg.block k (Array.getElem?_eq_some_iff.1 hk).1 (fun e => own_blk ho hk ht k e.symm rfl)).trans hk
theorem RegKept.set {w : World} {k i : Nat} {t : TypeId} {ds : Array Value} {v : Value} (hk : Blk w k t ds) (ht : t ≠ 51) : RegKept w (w.setCell ⟨k, i, none⟩ v) :=
  fun j cs hj => (heap_setCell_other w ⟨k, i, none⟩ j v (fun e => by
    have e2 : j = k := e
    subst e2
    unfold Blk at hj hk
    rw [hj] at hk
    injection hk with hk
    injection hk with _ hk
    exact ht hk.symm)).trans hj
theorem not_text {w : World} {k : Nat} {t : TypeId} {ds : Array Value} (hk : Blk w k t ds) (ht : t ≠ 9) (cs : Array Value) : ¬ Blk w k 9 cs := fun hj => by
  unfold Blk at hj hk
  rw [hj] at hk
  injection hk with hk
  injection hk with _ hk
  exact ht hk.symm
/-- the last piece in memory -/
theorem Mg.last {w0 wx : World} {vp : Value} {P : List PV} {c : Bool} {s b x y : SV} {R : List PC} {lb : Option Nat} (h : Mg w0 wx vp (P ++ [(c, s, b, x, y)]) R lb) : ∃ g cap, vp = .slice (some ⟨g, 0, none⟩) (P.length + 1) cap ∧ w0.heap.size + 1 ≤ g ∧ g < wx.heap.size ∧ wx.cell? ⟨g, P.length * 5, none⟩ = some (.bool c) ∧ wx.cell? ⟨g, P.length * 5 + 1, none⟩ = some (sv s) ∧ wx.frozen? ⟨g, P.length * 5 + 1, none⟩ = false := by
  have ho := h.own
  rw [List.length_append] at ho
  rcases ho.2 with ⟨_, h0⟩ | ⟨g, cap, cur, rfl, hb, hg, hnc, hcm, hcs, htake⟩
  · simp at h0
  · obtain ⟨a0, a1, _⟩ := prP_at (P ++ [(c, s, b, x, y)]) P.length (by simp)
    have h0 := ho.cells (g := g) rfl (P.length * 5) (.bool c) (by rw [a0]; simp)
    have h1 := ho.cells (g := g) rfl (P.length * 5 + 1) (sv s) (by rw [a1]; simp)
    rw [WideShapes.add_plain] at h0 h1
    exact ⟨g, cap, rfl, hb, (Array.getElem?_eq_some_iff.1 hg).1, by simpa using h0, by simpa using h1, by simp [World.frozen?, hg]⟩
end Go.Proofs.YtpnnojepbmpfiaaDoor
