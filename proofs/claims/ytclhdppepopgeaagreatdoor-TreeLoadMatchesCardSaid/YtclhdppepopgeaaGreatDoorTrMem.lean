/- The tree's lists: the program's tree in memory. -/
import Derived.Test.YtclhdppepopgeaaGreatDoorTrRight
import Derived.Test.YtclhdppepopgeaaGreatDoorTrIter
namespace Go.Proofs.YtclhdppepopgeaaGreatDoor
open Go.RowKit

abbrev ptr (b : Nat) : Value := .pointer (some ⟨b, 0, none⟩)
/-- a node's block: its number, what it is, how many names it has, its parent's number, its entries -/
def ndCells (i : Nat) (d : ND) (names par : Int) (ev : Value) : Array Value :=
  #[.int .i64 ((i + 1 : Nat) : Int), .int .i64 0, .int .i64 d.kind, .int .i64 d.mode, .int .i64 d.user, .int .i64 d.group, .int .i64 d.changed, .int .i64 names, .int .i64 0, .int .i64 par, .string d.data, ev]
def NodeAt (w : World) (b i : Nat) (d : ND) (ev : Value) : Prop := ∃ names par : Int, w.heap[b]? = some (.cells (ndCells i d names par ev) 70 (0, 0))
theorem NodeAt.lt {w : World} {b i : Nat} {d : ND} {ev : Value} (h : NodeAt w b i d ev) : b < w.heap.size := by
  obtain ⟨_, _, h⟩ := h
  exact (Array.getElem?_eq_some_iff.1 h).1
theorem NodeAt.keep {w w' : World} {b i : Nat} {d : ND} {ev : Value} (h : NodeAt w b i d ev) (hb : Below w.heap.size w w') : NodeAt w' b i d ev := by
  have hl := h.lt
  obtain ⟨a, c, h⟩ := h
  exact ⟨a, c, (hb.block b hl).trans h⟩
theorem NodeAt.cellar {w : World} {b i : Nat} {d : ND} {ev : Value} (h : NodeAt w b i d ev) : Cellar w b := by
  obtain ⟨_, _, h⟩ := h
  exact ⟨_, _, h⟩
/-- what a node's cells hold -/
theorem NodeAt.cells {w : World} {b i : Nat} {d : ND} {ev : Value} (h : NodeAt w b i d ev) : w.cell? ⟨b, 0, none⟩ = some (.int .i64 ((i + 1 : Nat) : Int)) ∧ w.cell? ⟨b, 1, none⟩ = some (.int .i64 0) ∧ w.cell? ⟨b, 2, none⟩ = some (.int .i64 d.kind) ∧ w.cell? ⟨b, 3, none⟩ = some (.int .i64 d.mode) ∧ w.cell? ⟨b, 4, none⟩ = some (.int .i64 d.user) ∧ w.cell? ⟨b, 5, none⟩ = some (.int .i64 d.group) ∧ w.cell? ⟨b, 6, none⟩ = some (.int .i64 d.changed) ∧ w.cell? ⟨b, 10, none⟩ = some (.string d.data) ∧ w.cell? ⟨b, 11, none⟩ = some ev := by
  obtain ⟨_, _, h⟩ := h
  refine ⟨?_, ?_, ?_, ?_, ?_, ?_, ?_, ?_, ?_⟩ <;> simp [World.cell?, h, ndCells]
/-- a node's entries, as a value -/
def evV (d : ND) (e : Nat) : Value := if dirK d then .map (some e) else .map none
/-- entries in a map -/
def entL (nb : Nat → Nat) (l : AL) : List (ByteArray × Value) := l.map fun p => (p.1, ptr (nb p.2))
theorem getS_ent (nb : Nat → Nat) : ∀ (l : AL) (k : ByteArray), getS (entL nb l) k = (getA l k).map fun j => ptr (nb j)
  | [], _ => rfl
  | p :: l, k => by
    unfold entL
    rw [List.map_cons, getS, getA]
    by_cases h : p.1 = k
    · rw [if_pos h, if_pos h]; rfl
    · rw [if_neg h, if_neg h]; exact getS_ent nb l k
/-- the tree in memory: where it lies, the map of its nodes, the nodes and their entries -/
structure TM (w : World) (s : TS) (t mn : Nat) (nb eb : Nat → Nat) (ch : Int) (vb vo vc : Nat) : Prop where
  tree : w.heap[t]? = some (.cells #[.map (some mn), .int .i64 (s.nds.length : Int), .int .i64 ch, .slice (some ⟨vb, 0, none⟩) 1 vc] 67 (0, 0))
  vol : w.cell? ⟨vb, 0, none⟩ = some (ptr vo)
  volb : w.heap[vo]? = some (.cells #[.int .i64 1048576, .bool false, ptr (nb 0), .pointer none] 107 (0, 0))
  vcp : 1 ≤ vc
  nodes : MapAt w mn (iL ((List.range s.nds.length).map fun i => (((i + 1 : Nat) : Int), ptr (nb i))))
  node : ∀ i, i < s.nds.length → NodeAt w (nb i) i (s.nd i) (evV (s.nd i) (eb i))
  ents : ∀ i, i < s.nds.length → dirK (s.nd i) = true → MapAt w (eb i) (sL (entL nb (s.en i)))
theorem TM.keep {w w' : World} {s : TS} {t mn : Nat} {nb eb : Nat → Nat} {ch : Int} {vb vo vc : Nat} (h : TM w s t mn nb eb ch vb vo vc) (hb : Below w.heap.size w w') : TM w' s t mn nb eb ch vb vo vc :=
  ⟨(hb.block t (Array.getElem?_eq_some_iff.1 h.tree).1).trans h.tree, (hb.cell (p := ⟨vb, 0, none⟩) (World.block_lt_of_cell? w _ h.vol)).trans h.vol, (hb.block vo (Array.getElem?_eq_some_iff.1 h.volb).1).trans h.volb, h.vcp, h.nodes.keep hb, fun i hi => (h.node i hi).keep hb, fun i hi hd => (h.ents i hi hd).keep hb⟩
theorem TM.cells {w : World} {s : TS} {t mn : Nat} {nb eb : Nat → Nat} {ch : Int} {vb vo vc : Nat} (h : TM w s t mn nb eb ch vb vo vc) : w.cell? ⟨t, 0, none⟩ = some (.map (some mn)) ∧ w.cell? ⟨t, 1, none⟩ = some (.int .i64 (s.nds.length : Int)) ∧ w.cell? ⟨t, 2, none⟩ = some (.int .i64 ch) ∧ w.cell? ⟨t, 3, none⟩ = some (.slice (some ⟨vb, 0, none⟩) 1 vc) := by
  have h1 := h.tree
  refine ⟨?_, ?_, ?_, ?_⟩ <;> simp [World.cell?, h1]
/-- the types' facts -/
theorem mapN : Tryz.prog.underlying 64 = some (.map 3 63) := by kernel_rfl
theorem mapE : Tryz.prog.underlying 68 = some (.map 9 63) := by kernel_rfl
theorem undI : Tryz.prog.underlying 3 = some (.int .i64) := by kernel_rfl
theorem undS : Tryz.prog.underlying 9 = some .string := by kernel_rfl
theorem zeroP (w : World) : (zeroValue 63).run Tryz.prog w = .ok (.pointer none) w := by kernel_rfl
theorem getI_range (nb : Nat → Nat) (n : Nat) : ∀ (i : Nat), i < n → getI ((List.range n).map fun i => (((i + 1 : Nat) : Int), ptr (nb i))) ((i + 1 : Nat) : Int) = some (ptr (nb i)) := by
  have key : ∀ (l : List Nat) (i : Nat), i ∈ l → getI (l.map fun i => (((i + 1 : Nat) : Int), ptr (nb i))) ((i + 1 : Nat) : Int) = some (ptr (nb i)) := fun l => by
    induction l with
    | nil => intro i h; cases h
    | cons x l ih =>
      intro i h
      rw [List.map_cons, getI]
      by_cases hx : x = i
      · subst hx; rw [if_pos rfl]
      · rw [if_neg (by simp; omega)]
        rcases List.mem_cons.1 h with h | h
        · exact absurd h.symm hx
        · exact ih i h
  exact fun i hi => key _ i (List.mem_range.2 hi)
/-- a node by its number -/
theorem TM.byNum {w : World} {s : TS} {t mn : Nat} {nb eb : Nat → Nat} {ch : Int} {vb vo vc : Nat} (h : TM w s t mn nb eb ch vb vo vc) (i : Nat) (hi : i < s.nds.length) :
    (Instr.lookup 64 (.map (some mn)) (.int .i64 ((i + 1 : Nat) : Int)) false).run Tryz.prog w = .ok (ptr (nb i)) w := by
  rw [lookup_i mapN undI zeroP h.nodes, getI_range nb _ i hi]
  rfl
/-- an entry by its name -/
theorem TM.byName {w : World} {s : TS} {t mn : Nat} {nb eb : Nat → Nat} {ch : Int} {vb vo vc : Nat} (h : TM w s t mn nb eb ch vb vo vc) (i : Nat) (hi : i < s.nds.length) (hd : dirK (s.nd i) = true) (k : ByteArray) :
    (Instr.lookup 68 (.map (some (eb i))) (.string k) false).run Tryz.prog w = .ok (match getA (s.en i) k with | some j => ptr (nb j) | none => .pointer none) w := by
  rw [lookup_s mapE undS zeroP (h.ents i hi hd), getS_ent]
  cases getA (s.en i) k <;> rfl
end Go.Proofs.YtclhdppepopgeaaGreatDoor
