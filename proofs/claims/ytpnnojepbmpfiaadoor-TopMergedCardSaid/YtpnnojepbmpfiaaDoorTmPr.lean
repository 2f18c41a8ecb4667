/- TopMerged: the pairs of lines that stay, and the table of rests, in memory. (The pairs' part printed by tools/mkpr.py out of FiMem.) -/
import Derived.Test.YtpnnojepbmpfiaaDoorTmMem
import Derived.Deep.OwnRows
namespace Go.Proofs.YtpnnojepbmpfiaaDoor
open Go.RowKit

def prC (l : List (Nat × Nat)) : List Value := l.flatMap fun b => [.int .i64 (b.1 : Int), .int .i64 (b.2 : Int)]
theorem prC_len (l : List (Nat × Nat)) : (prC l).length = l.length * 2 := by
  induction l with
  | nil => rfl
  | cons b r ih => simp only [prC, List.flatMap_cons, List.length_append, List.length_cons, List.length_nil] at *; omega
theorem prC_at (l : List (Nat × Nat)) (j : Nat) (h : j < l.length) : (prC l)[j * 2]? = some (.int .i64 (l[j].1 : Int)) ∧ (prC l)[j * 2 + 1]? = some (.int .i64 (l[j].2 : Int)) := by
  induction l generalizing j with
  | nil => simp at h
  | cons b r ih =>
    cases j with
    | zero => exact ⟨rfl, rfl⟩
    | succ j =>
      have := ih j (by simpa using h)
      rw [show (j + 1) * 2 = j * 2 + 2 by omega, show j * 2 + 2 + 1 = (j * 2 + 1) + 2 by omega]
      exact this
theorem prC_one (l : List (Nat × Nat)) : ∀ u ∈ prC l, u.oneCell' = true := fun u hu => by
  simp only [prC, List.mem_flatMap, List.mem_cons, List.not_mem_nil, or_false] at hu
  obtain ⟨b, _, rfl | rfl⟩ := hu <;> rfl
/-- the pairs, where they lie -/
def PrC (b off : Nat) (L : List (Nat × Nat)) (w : World) : Prop := b < w.heap.size ∧ ∀ j (h : j < L.length), w.cell? ⟨b, off + j * 2, none⟩ = some (.int .i64 (L[j].1 : Int)) ∧ w.cell? ⟨b, off + j * 2 + 1, none⟩ = some (.int .i64 (L[j].2 : Int))
theorem PrC.keep {b off : Nat} {L : List (Nat × Nat)} {w w' : World} (h : PrC b off L w) (hb : Below w.heap.size w w') : PrC b off L w' :=
  ⟨Nat.lt_of_lt_of_le h.1 hb.size, fun j hj => ⟨(hb.cell (p := ⟨b, off + j * 2, none⟩) h.1).trans (h.2 j hj).1, (hb.cell (p := ⟨b, off + j * 2 + 1, none⟩) h.1).trans (h.2 j hj).2⟩⟩
/-- v is a slice of these pairs -/
def KP (w : World) (v : Value) (L : List (Nat × Nat)) : Prop :=
  ∃ A c, v = .slice A L.length c ∧ L.length ≤ c ∧ (A = none → c = 0) ∧ (0 < L.length → ∃ b off, A = some ⟨b, off, none⟩ ∧ PrC b off L w)
theorem KP.keep {w w' : World} {v : Value} {l : List (Nat × Nat)} (h : KP w v l) (hb : Below w.heap.size w w') : KP w' v l := by
  obtain ⟨A, c, rfl, hc, hA, h⟩ := h
  refine ⟨A, c, rfl, hc, hA, fun hn => ?_⟩
  obtain ⟨b, off, rfl, hp⟩ := h hn
  exact ⟨b, off, rfl, hp.keep hb⟩
theorem KP.of_own {w : World} {base : Nat} {e : TypeId} {v : Value} {n : Nat} {l : List (Nat × Nat)} (h : w.ownsRow base e 2 v n (prC l)) : KP w v l := by
  have hn : l.length = n := by have := h.1; rw [prC_len] at this; omega
  subst hn
  rcases h.2 with ⟨rfl, h0⟩ | ⟨g, cap, cur, rfl, _, hh, hcap, _, _, ht⟩
  · have : l = [] := by cases l with
      | nil => rfl
      | cons b r => simp at h0
    subst this
    exact ⟨none, 0, rfl, by simp, fun _ => rfl, fun hp => by simp at hp⟩
  · refine ⟨_, cap, rfl, hcap, fun e => (by cases e), fun hp => ⟨g, 0, rfl, (h.lt g rfl).2, fun j hj => ?_⟩⟩
    have h1 := h.cells (g := g) rfl (j * 2) _ (prC_at l j hj).1
    have h2 := h.cells (g := g) rfl (j * 2 + 1) _ (prC_at l j hj).2
    rw [WideShapes.add_plain] at h1 h2
    exact ⟨h1, by rw [← h2, Nat.add_assoc]⟩
theorem pairInfo : (Tryd.prog.info? 66).map (fun i => (i.zero, i.size, i.bytes)) = some (some (.agg #[.int .i64 0, .int .i64 0]), 2, 16) := by kernel_rfl
/-- a list that is being built -/
structure OutD (w0 : World) (vo : Value) (O : List (Nat × Nat)) (wx : World) : Prop where
  own : wx.ownsRow w0.heap.size 66 2 vo O.length (prC O)
  below : Below w0.heap.size w0 wx
theorem OutD.start {w0 wx : World} (h : Below w0.heap.size w0 wx) : OutD w0 (.slice none 0 0) [] wx := ⟨World.ownsRow_nil _ _ _ _, h⟩
theorem OutD.keep {w0 wx w' : World} {vo : Value} {O : List (Nat × Nat)} (h : OutD w0 vo O wx) (hb : Below wx.heap.size wx w') : OutD w0 vo O w' :=
  ⟨h.own.kept (row := none) ⟨hb.os, hb.tape, hb.output, hb.size, fun k hk _ => hb.block k hk⟩ (by cases vo.ownBlock <;> simp), h.below.trans (hb.mono h.below.size)⟩
theorem OutD.alloc {w0 wx : World} {vo : Value} {O : List (Nat × Nat)} (h : OutD w0 vo O wx) (o : Obj) : OutD w0 vo O (wx.alloc o) := h.keep ((Below.refl _ wx).alloc (Nat.le_refl _) o)
theorem OutD.append {w0 wx w' : World} {vo : Value} {O : List (Nat × Nat)} {p : Nat × Nat} {g cap : Nat} (h : OutD w0 vo O wx) (hown : w'.ownsRow w0.heap.size 66 2 (.slice (some ⟨g, 0, none⟩) (O.length + 1) cap) (O.length + 1) (prC O ++ [.int .i64 (p.1 : Int), .int .i64 (p.2 : Int)])) (hg : wx.grownBy w' vo.ownBlock) : OutD w0 (.slice (some ⟨g, 0, none⟩) (O.length + 1) cap) (O ++ [p]) w' := by
  refine ⟨?_, h.below.grown hg (by have := h.below.size; omega) (fun g hg => (h.own.lt g hg).1)⟩
  rw [List.length_append]
  show w'.ownsRow _ _ _ _ (O.length + 1) _
  rw [show prC (O ++ [p]) = prC O ++ [.int .i64 (p.1 : Int), .int .i64 (p.2 : Int)] by simp [prC]]
  exact hown
theorem OutD.kp {w0 wx : World} {vo : Value} {O : List (Nat × Nat)} (h : OutD w0 vo O wx) : KP wx vo O := KP.of_own h.own

/-! The table. -/
theorem rT_le : ∀ (a b : List ByteArray), rT a b ≤ a.length
  | [], b => by rw [rT_nil]; exact Nat.le_refl _
  | x :: a, [] => by rw [rT_nil2]; exact Nat.zero_le _
  | x :: a, y :: b => by
    rw [rT_cons]
    have h1 := rT_le a b
    have h2 := rT_le a (y :: b)
    have h3 := rT_le (x :: a) b
    rw [List.length_cons] at *
    split <;> omega
termination_by a b => a.length + b.length
/-- the table's places -/
def rest (a b : List ByteArray) (i k : Nat) : Nat := rT (a.drop i) (b.drop k)
theorem rest_le (a b : List ByteArray) (i k : Nat) : rest a b i k ≤ a.length := by
  have := rT_le (a.drop i) (b.drop k)
  rw [List.length_drop] at this
  unfold rest
  omega
theorem rest_end (a b : List ByteArray) (i k : Nat) (h : a.length ≤ i ∨ b.length ≤ k) : rest a b i k = 0 := by
  unfold rest
  rcases h with h | h
  · rw [List.drop_of_length_le h, rT_nil]
  · rw [List.drop_of_length_le h, rT_nil2]
theorem rest_step (a b : List ByteArray) (i k : Nat) (hi : i < a.length) (hk : k < b.length) : rest a b i k = if a[i] = b[k] then rest a b (i + 1) (k + 1) + 1 else max (rest a b (i + 1) k) (rest a b i (k + 1)) := by
  unfold rest
  rw [List.drop_eq_getElem_cons hi, List.drop_eq_getElem_cons hk, rT_cons, ← List.drop_eq_getElem_cons hi, ← List.drop_eq_getElem_cons hk]
/-- the table so far: the rows behind i, and in row i the places from k on -/
def tabF (a b : List ByteArray) (i k : Nat) : Nat → Nat → Nat := fun j q => if i < j ∨ (j = i ∧ k ≤ q) then rest a b j q else 0
/-- the table in memory -/
structure Tab (w wr : World) (n m : Nat) (D : Nat → Nat → Nat) : Prop where
  below : Below w.heap.size w wr
  top : wr.rowIs w.heap.size 87 (n + 1) (fun j => .slice (some ⟨w.heap.size + 1 + j, 0, none⟩) (m + 1) (m + 1))
  rows : ∀ j, j ≤ n → wr.rowIs (w.heap.size + 1 + j) 3 (m + 1) (fun q => .int .i64 (D j q : Int))
theorem Tab.congr {w wr : World} {n m : Nat} {D E : Nat → Nat → Nat} (h : Tab w wr n m D) (e : ∀ j q, j ≤ n → q ≤ m → D j q = E j q) : Tab w wr n m E :=
  ⟨h.below, h.top, fun j hj => (h.rows j hj).congr fun q hq => by rw [e j q hj (by omega)]⟩
theorem Tab.set {w wr : World} {n m : Nat} {D : Nat → Nat → Nat} (h : Tab w wr n m D) (i k v : Nat) : Tab w (wr.setCell ⟨w.heap.size + 1 + i, k, none⟩ (.int .i64 (v : Int))) n m (fun j q => if j = i ∧ q = k then v else D j q) := by
  refine ⟨h.below.setCell (by show w.heap.size ≤ w.heap.size + 1 + i; omega) _, h.top.setOther (by show w.heap.size ≠ w.heap.size + 1 + i; omega) _, fun j hj => ?_⟩
  by_cases e : j = i
  · subst e
    exact ((h.rows j hj).set k _).congr fun q _ => by
      by_cases e2 : q = k
      · rw [if_pos e2, if_pos ⟨rfl, e2⟩]
      · rw [if_neg e2, if_neg (fun x => e2 x.2)]
  · exact ((h.rows j hj).setOther (by show w.heap.size + 1 + j ≠ w.heap.size + 1 + i; omega) _).congr fun q _ => by rw [if_neg (fun x => e x.1)]
theorem Tab.drew {w wr : World} {n m : Nat} {D : Nat → Nat → Nat} (h : Tab w wr n m D) : Tab w wr.drew n m D := ⟨h.below.drew, h.top.drew, fun j hj => (h.rows j hj).drew⟩
theorem Tab.keep {w wr w' : World} {n m : Nat} {D : Nat → Nat → Nat} (h : Tab w wr n m D) (hb : Below wr.heap.size wr w') : Tab w w' n m D :=
  ⟨h.below.trans (hb.mono h.below.size), h.top.of_block (hb.block _ h.top.lt), fun j hj => (h.rows j hj).of_block (hb.block _ (h.rows j hj).lt)⟩
theorem Tab.like {w wr w' : World} {n m : Nat} {D : Nat → Nat → Nat} (h : Tab w wr n m D) (e1 : w'.heap = wr.heap) (e2 : w'.os = wr.os) (e3 : w'.tape = wr.tape) (e4 : w'.output = wr.output) : Tab w w' n m D :=
  ⟨⟨e2.trans h.below.os, e3.trans h.below.tape, e4.trans h.below.output, by rw [e1]; exact h.below.size, fun k hk => by rw [e1]; exact h.below.block k hk⟩, h.top.of_block (by rw [e1]), fun j hj => (h.rows j hj).of_block (by rw [e1])⟩
theorem Tab.cell {w wr : World} {n m : Nat} {D : Nat → Nat → Nat} (h : Tab w wr n m D) (i : Nat) (hi : i ≤ n) : wr.cell? ⟨w.heap.size, i, none⟩ = some (.slice (some ⟨w.heap.size + 1 + i, 0, none⟩) (m + 1) (m + 1)) := h.top.cell (Nat.lt_succ_of_le hi)
theorem Tab.at {w wr : World} {n m : Nat} {D : Nat → Nat → Nat} (h : Tab w wr n m D) (i k : Nat) (hi : i ≤ n) (hk : k ≤ m) : wr.cell? ⟨w.heap.size + 1 + i, k, none⟩ = some (.int .i64 (D i k : Int)) := (h.rows i hi).cell (Nat.lt_succ_of_le hk)
/-- the rows are made -/
structure Mk (w wr : World) (n m c : Nat) : Prop where
  below : Below w.heap.size w wr
  size : wr.heap.size = w.heap.size + 1 + c
  top : wr.rowIs w.heap.size 87 (n + 1) (fun j => if j < c then .slice (some ⟨w.heap.size + 1 + j, 0, none⟩) (m + 1) (m + 1) else .slice none 0 0)
  rows : ∀ j, j < c → wr.rowIs (w.heap.size + 1 + j) 3 (m + 1) (fun _ => .int .i64 0)
theorem Mk.start (w : World) (n m : Nat) : Mk w (w.alloc (.cells (madeCells #[.slice none 0 0] (n + 1)) 87)) n m 0 :=
  ⟨(Below.refl _ _).alloc (Nat.le_refl _) _, by simp, (World.rowIs_made w _ (n + 1) _).congr (fun j _ => by simp), fun j hj => absurd hj (Nat.not_lt_zero _)⟩
theorem Mk.step {w wr : World} {n m c : Nat} (h : Mk w wr n m c) :
    Mk w ((wr.alloc (.cells (madeCells #[.int .i64 0] (m + 1)) 3)).setCell ⟨w.heap.size, c, none⟩ (.slice (some ⟨w.heap.size + 1 + c, 0, none⟩) (m + 1) (m + 1))) n m (c + 1) := by
  have hnew := World.rowIs_made wr (.int .i64 0) (m + 1) 3
  rw [h.size] at hnew
  refine ⟨(h.below.alloc (by rw [h.size]; omega) _).setCell (Nat.le_refl _) _, by simp [h.size]; omega, ((h.top.alloc _).set c _).congr (fun j _ => ?_), fun j hj => ?_⟩
  · by_cases e : j = c
    · subst e; simp
    · rw [if_neg e]
      by_cases hlt : j < c
      · rw [if_pos hlt, if_pos (by omega)]
      · rw [if_neg hlt, if_neg (by omega)]
  · by_cases e : j = c
    · subst e
      exact hnew.setOther (by show w.heap.size + 1 + j ≠ w.heap.size; omega) _
    · exact ((h.rows j (by omega)).alloc _).setOther (by show w.heap.size + 1 + j ≠ w.heap.size; omega) _
theorem Mk.drew {w wr : World} {n m c : Nat} (h : Mk w wr n m c) : Mk w wr.drew n m c := ⟨h.below.drew, h.size, h.top.drew, fun j hj => (h.rows j hj).drew⟩
theorem Mk.tab {w wr : World} {n m : Nat} (h : Mk w wr n m (n + 1)) : Tab w wr n m (fun _ _ => 0) :=
  ⟨h.below, h.top.congr fun j hj => by rw [if_pos hj], fun j hj => h.rows j (by omega)⟩
/-! Where a line stands first. -/
theorem idx_from : ∀ (b : List ByteArray) (x : ByteArray) (i : Nat), Lib.idxFromS b x i = (match idxB b x with | some n => ((i + n : Nat) : Int) | none => -1)
  | [], _, _ => rfl
  | y :: b, x, i => by
    unfold Lib.idxFromS idxB
    by_cases h : y = x
    · rw [if_pos h, if_pos h]; rfl
    · rw [if_neg h, if_neg h, idx_from b x (i + 1)]
      cases idxB b x with
      | none => rfl
      | some n => show ((i + 1 + n : Nat) : Int) = ((i + (n + 1) : Nat) : Int); congr 1; omega
theorem idx_of (b : List ByteArray) (x : ByteArray) : Lib.idxOfS b x = (match idxB b x with | some n => (n : Int) | none => -1) := by
  unfold Lib.idxOfS
  rw [idx_from]
  cases idxB b x with
  | none => rfl
  | some n => show ((0 + n : Nat) : Int) = (n : Int); rw [Nat.zero_add]
theorem idxB_lt {b : List ByteArray} {x : ByteArray} {n : Nat} (h : idxB b x = some n) : n < b.length := (List.getElem?_eq_some_iff.1 (idxB_some h)).1
end Go.Proofs.YtpnnojepbmpfiaaDoor
