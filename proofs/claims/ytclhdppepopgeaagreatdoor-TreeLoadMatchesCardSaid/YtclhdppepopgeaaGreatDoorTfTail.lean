/- A region that draws its order, with guards: an operation that is passed over, and one that is wanted. -/
import Derived.Test.YtclhdppepopgeaaGreatDoorTail
namespace Go.Proofs.YtclhdppepopgeaaGreatDoor
open Go Go.RowKit

def passes (ops : Array Oper) (i d : Nat) (tmps : Array Value) : Bool :=
  match ops[i]? with
  | some o => o.dst == some d && !Region.wanted o (yielded ops tmps)
  | none => false
section
variable {P : Program} {ops : Array Oper} {Q : Exit → Act → World → Prop} {md : Region.Mode} {S : World → Prop} {K : Act → World → Prop} {n g : Nat}
theorem wpAnyT_pass (e i d : Nat) {f : Nat} {listed : Array Bool} {a : Act} {w : World} (ht : tailB md ops n e = true) (hp : passes ops i d a.tmps = true)
    (hB : (decide (i < n) && (i != e) && headB md ops n listed && Region.free md ops listed i && (Region.ready md ops listed).contains i) = true)
    (hQ : ∀ c a w, Q (.panic c) (a.put (some d) undef) w → Q (.panic c) a w) (hS : S w)
    (h : wpAnyT P md ops Q S n g K f (listed.setIfInBounds i true) (a.put (some d) undef) w) : wpAnyT P md ops Q S n g K (f + 1) listed a w := by
  unfold passes at hp
  split at hp
  · rename_i o ho
    simp only [Bool.and_eq_true, beq_iff_eq, Bool.not_eq_true'] at hp
    exact wpAnyT_take e i ht ho hB (by rw [hp.1]; exact hQ) (.inr ⟨hp.2, rfl⟩) hS (by rw [hp.1]; exact h)
  · exact absurd hp (by simp)
theorem wpOp_atG {i : Nat} {o : Oper} {a : Act} {w : World} (ho : ops[i]? = some o) (hw : Region.wanted o (yielded ops a.tmps) = true) (h : ∀ K' : Act → World → Prop, Hid (∀ a w, K a w → K' a w) → o.wp P a w K' Q) : wpOp P ops Q i K a w := by
  unfold wpOp
  simp only [ho]
  rw [if_pos hw]
  exact .inl (h K (Lib.hid fun _ _ h => h))
end
end Go.Proofs.YtclhdppepopgeaaGreatDoor
