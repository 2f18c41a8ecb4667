/- Arithmetic expressions: strconv.ParseUint at the bases 8, 10, 16 and 63 bits. (Printed by tools/gpu.py.) -/
import Derived.Test.YtiigclkebnmopaaGreatDoorArRefA
import Derived.Lib.ConvBytes
import Derived.Lib.AtoiAllMem
import Derived.Lib.AtoiErrMem
import Derived.Laws.Strings3
import Derived.Laws.Closers25
import Derived.Laws.Closers25b
import Derived.BigGuard
namespace Go.Proofs.YtiigclkebnmopaaGreatDoor
open Go.RowKit Go.Shelf

/-- what the inner ParseUint gives -/
def PuGives (base : Nat) (L : List UInt8) (w : World) (e : Ending) (w' : World) : Prop :=
  (match (if L = [] then none else numV base L 0) with
  | some n => e = .returned (.tuple #[.int .u64 (n : Int), .nilIface])
  | none => ∃ (u c : Int), (c = 1 ∨ c = 2) ∧ e = .returned (.tuple #[.int .u64 u, .iface 292 (.int .i64 c)])) ∧ Below w.heap.size w w'
theorem PuGives.bad {base : Nat} {L : List UInt8} {w w' : World} {u c : Int} (hL : L ≠ []) (h : numV base L 0 = none) (hc : c = 1 ∨ c = 2) (hb : Below w.heap.size w w') : PuGives base L w (.returned (.tuple #[.int .u64 u, .iface 292 (.int .i64 c)])) w' := by
  unfold PuGives
  rw [if_neg hL, h]
  exact ⟨⟨u, c, hc, rfl⟩, hb⟩
end Go.Proofs.YtiigclkebnmopaaGreatDoor
