/- Times, the reference: ParseTimes of a text of five fields, over whatever its parts are read as. -/
import Derived.Test.YtlhaidibcocooaaGreatDoorTimesR
import Derived.Deep.DeepCutAuto
import Derived.StillTailTactics
namespace Go.Proofs.YtlhaidibcocooaaGreatDoor
open Go.RowKit Go.Shelf

def lowV (i : Nat) : Value := ((#[.int .i64 0, .int .i64 0, .int .i64 1, .int .i64 1, .int .i64 0] : Array Value)[i]?).getD (.int .i64 0)
def topV (i : Nat) : Value := ((#[.int .i64 59, .int .i64 23, .int .i64 31, .int .i64 12, .int .i64 7] : Array Value)[i]?).getD (.int .i64 0)
def nmV (g1 g2 i : Nat) : Value := ((#[.slice none 0 0, .slice none 0 0, .slice none 0 0, .slice (some ⟨g1, 0, none⟩) 12 12, .slice (some ⟨g2, 0, none⟩) 7 7] : Array Value)[i]?).getD (.int .i64 0)
theorem tf_at (g1 g2 i : Nat) (hi : i < 5) : (tfCells g1 g2)[i * 3]? = some (lowV i) ∧ (tfCells g1 g2)[i * 3 + 1]? = some (topV i) ∧ (tfCells g1 g2)[i * 3 + 2]? = some (nmV g1 g2 i) := by
  have h : i = 0 ∨ i = 1 ∨ i = 2 ∨ i = 3 ∨ i = 4 := by omega
  rcases h with rfl | rfl | rfl | rfl | rfl <;> exact ⟨rfl, rfl, rfl⟩
/-- the parts of a field -/
def cutP (x : List UInt8) : List ByteArray := Lib.splitB ⟨#[44]⟩ 0 (Lib.countB (toB x) ⟨#[44]⟩) (toB x)
def arrS (st : Nat → Nat) : Array Value := #[.int .u64 (st 0 : Int), .int .u64 (st 1 : Int), .int .u64 (st 2 : Int), .int .u64 (st 3 : Int), .int .u64 (st 4 : Int)]
def putN (st : Nat → Nat) (i a : Nat) : Nat → Nat := fun k => if k = i then a else st k
theorem arr_put (st : Nat → Nat) (i a : Nat) (hi : i < 5) : (arrS st).set! i (.int .u64 (a : Int)) = arrS (putN st i a) := by
  have h : i = 0 ∨ i = 1 ∨ i = 2 ∨ i = 3 ∨ i = 4 := by omega
  rcases h with rfl | rfl | rfl | rfl | rfl <;> rfl
theorem arr_at (st : Nat → Nat) (i : Nat) (hi : i < 5) : (arrS st)[i]? = some (.int .u64 (st i : Int)) := by
  have h : i = 0 ∨ i = 1 ∨ i = 2 ∨ i = 3 ∨ i = 4 := by omega
  rcases h with rfl | rfl | rfl | rfl | rfl <;> rfl
def zeroT : Array Value := #[.int .u64 0, .int .u64 0, .int .u64 0, .int .u64 0, .int .u64 0, .bool false, .bool false]
/-- what the walk reads and writes -/
structure PS (w wr : World) (b5 A g g1 g2 : Nat) (P : Nat → List UInt8) (st : Nat → Nat) : Prop where
  below : Below w.heap.size w wr
  res : wr.heap[w.heap.size]? = some (.cells zeroT 24 (0, 0))
  sets : wr.heap[b5]? = some (.cells (arrS st) 71 (0, 0))
  row : ∀ k, k < 5 → wr.cell? ⟨A, k, none⟩ = some (.string (toB (P k)))
  tf : TF wr g g1 g2
  ne : w.heap.size < b5 ∧ A ≠ b5 ∧ g ≠ b5 ∧ g1 ≠ b5 ∧ g2 ≠ b5 ∧ A < wr.heap.size
theorem PS.keep {w wr wy : World} {b5 A g g1 g2 : Nat} {P : Nat → List UInt8} {st : Nat → Nat} (h : PS w wr b5 A g g1 g2 P st) (hb : Below wr.heap.size wr wy) : PS w wy b5 A g g1 g2 P st :=
  ⟨h.below.trans (hb.mono h.below.size), (hb.block _ (Array.getElem?_eq_some_iff.1 h.res).1).trans h.res, (hb.block _ (Array.getElem?_eq_some_iff.1 h.sets).1).trans h.sets,
    fun k hk => (hb.cell (p := ⟨A, k, none⟩) h.ne.2.2.2.2.2).trans (h.row k hk), h.tf.keep hb, ⟨h.ne.1, h.ne.2.1, h.ne.2.2.1, h.ne.2.2.2.1, h.ne.2.2.2.2.1, Nat.lt_of_lt_of_le h.ne.2.2.2.2.2 hb.size⟩⟩
theorem NmAt.only {w w' : World} {g n c b : Nat} (h : NmAt w (.slice (some ⟨g, 0, none⟩) n c)) (hb : Only b w w') (hne : g ≠ b) : NmAt w' (.slice (some ⟨g, 0, none⟩) n c) := by
  obtain ⟨A, c', NM, he, h1, h2, h3⟩ := h
  injection he with e1 e2 e3
  subst e1 e2 e3
  refine ⟨_, _, NM, rfl, h1, fun hn => ?_, h3⟩
  obtain ⟨g', off, e4, hl, hc⟩ := h2 hn
  injection e4 with e5
  injection e5 with e6 e7
  subst e6 e7
  exact ⟨_, _, rfl, Nat.lt_of_lt_of_le hl hb.size, fun j hj => (World.cell?_of_block (a := ⟨_, _, none⟩) (hb.block g hl hne)).trans (hc j hj)⟩
theorem PS.store {w wr : World} {b5 A g g1 g2 : Nat} {P : Nat → List UInt8} {st : Nat → Nat} (h : PS w wr b5 A g g1 g2 P st) (i a : Nat) (hi : i < 5) : PS w (wr.setCell ⟨b5, i, none⟩ (.int .u64 (a : Int))) b5 A g g1 g2 P (putN st i a) := by
  have ho : Only b5 wr (wr.setCell ⟨b5, i, none⟩ (.int .u64 (a : Int))) := (Only.refl b5 wr).setCell _
  have hs : (wr.setCell ⟨b5, i, none⟩ (.int .u64 (a : Int))).heap.size = wr.heap.size := by simp [World.setCell]
  refine ⟨h.below.setCell (by show w.heap.size ≤ b5; have := h.ne.1; omega) _, (ho.block _ (Array.getElem?_eq_some_iff.1 h.res).1 (by have := h.ne.1; omega)).trans h.res, ?_, fun k hk => (World.cell?_of_block (a := ⟨A, k, none⟩) (ho.block A h.ne.2.2.2.2.2 h.ne.2.1)).trans (h.row k hk), ?_, ⟨h.ne.1, h.ne.2.1, h.ne.2.2.1, h.ne.2.2.2.1, h.ne.2.2.2.2.1, by rw [hs]; exact h.ne.2.2.2.2.2⟩⟩
  · rw [heap_setCell_same _ _ _ _ _ _ h.sets, ← arr_put st i a hi]
    rfl
  · exact ⟨fun j => (World.cell?_of_block (a := ⟨g, j, none⟩) (ho.block g h.tf.lt h.ne.2.2.1)).trans (h.tf.cells j), by rw [hs]; exact h.tf.lt, h.tf.months.only ho h.ne.2.2.2.1, h.tf.days.only ho h.ne.2.2.2.2.1⟩
/-- a field's copy and the row of its parts -/
structure QS (wr : World) (b5 b7 A7 : Nat) (cs : Array Value) (L : List ByteArray) : Prop where
  box : wr.heap[b7]? = some (.cells cs 75 (0, 0))
  row : ∀ k (h : k < L.length), wr.cell? ⟨A7, k, none⟩ = some (.string L[k])
  ne : b7 ≠ b5 ∧ A7 ≠ b5 ∧ A7 < wr.heap.size
theorem QS.keep {wr wy : World} {b5 b7 A7 : Nat} {cs : Array Value} {L : List ByteArray} (h : QS wr b5 b7 A7 cs L) (hb : Below wr.heap.size wr wy) : QS wy b5 b7 A7 cs L :=
  ⟨(hb.block _ (Array.getElem?_eq_some_iff.1 h.box).1).trans h.box, fun k hk => (hb.cell (p := ⟨A7, k, none⟩) h.ne.2.2).trans (h.row k hk), ⟨h.ne.1, h.ne.2.1, Nat.lt_of_lt_of_le h.ne.2.2 hb.size⟩⟩
theorem QS.store {wr : World} {b5 b7 A7 : Nat} {cs : Array Value} {L : List ByteArray} (h : QS wr b5 b7 A7 cs L) (i : Nat) (v : Value) : QS (wr.setCell ⟨b5, i, none⟩ v) b5 b7 A7 cs L := by
  have ho : Only b5 wr (wr.setCell ⟨b5, i, none⟩ v) := (Only.refl b5 wr).setCell _
  exact ⟨(ho.block _ (Array.getElem?_eq_some_iff.1 h.box).1 h.ne.1).trans h.box, fun k hk => (World.cell?_of_block (a := ⟨A7, k, none⟩) (ho.block A7 h.ne.2.2 h.ne.2.1)).trans (h.row k hk), ⟨h.ne.1, h.ne.2.1, by simpa [World.setCell] using h.ne.2.2⟩⟩

/-- what reading a part must give: what is gathered (I), perhaps an error (Er) -/
def PartGives (I : Nat → Nat → Nat → Prop) (Er : Prop) (P : Nat → List UInt8) : Prop :=
  ∀ (W : World) (g1 g2 i j acc : Nat) (s : ByteArray), i < 5 → (cutP (P i))[j]? = some s → I i j acc → NmAt W (nmV g1 g2 i) → MaxLenAt W →
    Calls Tryz.prog 30 #[.agg #[lowV i, topV i, nmV g1 g2 i], .string s] W fun e w' => ∃ b er : Nat, e = .returned (.tuple #[.int .u64 (b : Int), .int .i64 (er : Int)]) ∧ b < 18446744073709551616 ∧ (er = 0 → I i (j + 1) (acc ||| b)) ∧ (er ≠ 0 → Er) ∧ Below W.heap.size W w'
def star0 (x : List UInt8) : Bool := match x with
  | [] => false
  | b :: _ => b.toNat == 42
/-- what ParseTimes returns -/
def ParseGives (I : Nat → Nat → Nat → Prop) (Er : Prop) (P : Nat → List UInt8) (w : World) (e : Ending) (w' : World) : Prop :=
  ((∃ st : Nat → Nat, (∀ k, k < 5 → I k (cutP (P k)).length (st k) ∧ st k < 18446744073709551616) ∧ e = .returned (.tuple #[.agg #[.int .u64 (st 0 : Int), .int .u64 (st 1 : Int), .int .u64 (st 2 : Int), .int .u64 (st 3 : Int), .int .u64 (foldW true (st 4) : Int), .bool (star0 (P 2)), .bool (star0 (P 4))], .int .i64 0])) ∨
    (Er ∧ ∃ er : Nat, er ≠ 0 ∧ e = .returned (.tuple #[.agg zeroT, .int .i64 (er : Int)]))) ∧ Below w.heap.size w w'
theorem nm_at {w : World} {g g1 g2 : Nat} (h : TF w g g1 g2) (i : Nat) (hi : i < 5) : NmAt w (nmV g1 g2 i) := by
  have hh : i = 0 ∨ i = 1 ∨ i = 2 ∨ i = 3 ∨ i = 4 := by omega
  rcases hh with rfl | rfl | rfl | rfl | rfl
  · exact nm_none w
  · exact nm_none w
  · exact nm_none w
  · exact h.months
  · exact h.days

end Go.Proofs.YtlhaidibcocooaaGreatDoor
