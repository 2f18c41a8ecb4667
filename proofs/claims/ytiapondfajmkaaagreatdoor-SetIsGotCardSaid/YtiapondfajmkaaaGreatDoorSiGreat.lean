/- Closed facts of a great seat: no function starts a goroutine, so no row does. -/
import Derived.Test.YtiapondfajmkaaaGreatDoorCards
import Derived.Test.YtiapondfajmkaaaGreatDoorTie
import Derived.ProofKit
namespace Go
theorem goes_none {P : Program} (h : P.funcs.any Func.goes = false) (f : FuncId) : P.goes f = false := by
  have hk : ∀ g : FuncId, (P.funcs[g]?).any Func.goes = false := by
    intro g
    cases hg : P.funcs[g]? with
    | none => rfl
    | some fn =>
      have hm : fn ∈ P.funcs := Array.mem_of_getElem? hg
      cases hf : fn.goes with
      | false => simp [hf]
      | true =>
        rw [Array.any_eq_true'.2 ⟨fn, hm, hf⟩] at h
        cases h
  unfold Program.goes
  rw [h, Bool.and_false, Bool.or_false]
  exact List.any_eq_false.2 fun g _ => by rw [hk g]; exact Bool.false_ne_true
theorem goesBy_none {P : Program} {c : OpenClaim} (h : P.funcs.any Func.goes = false) (hs : c.start = .entering) : c.goesBy P = false := by
  unfold OpenClaim.goesBy Program.goesAt Program.goesFrom
  rw [hs]
  cases P.funcNamed c.func with
  | none => rfl
  | some f => simp [goes_none h f]
end Go
namespace Go.Proofs.YtiapondfajmkaaaGreatDoor
set_option maxRecDepth 100000
theorem noGoes : Tryz.pinned.checked.prog.funcs.any Func.goes = false := by kernel_rfl
theorem goesT : false = Rows.setIsGotRow.goesBy Tryz.pinned.checked.prog := (goesBy_none noGoes rfl).symm
end Go.Proofs.YtiapondfajmkaaaGreatDoor
