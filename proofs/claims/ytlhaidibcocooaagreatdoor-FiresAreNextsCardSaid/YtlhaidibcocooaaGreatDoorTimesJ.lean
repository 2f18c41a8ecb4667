/- Times: the texts of parts, cut at a slash and at a hyphen. Plain Lean; checked by the kernel, text by text. -/
import Derived.Test.YtlhaidibcocooaaGreatDoorTimesG
import Derived.Test.YtlhaidibcocooaaGreatDoorTimesLaw
import Derived.Lib.IndexMore
namespace Go.Proofs.YtlhaidibcocooaaGreatDoor
open Go.RowKit

def cutNum (k : Nat) : Bool := decide (Lib.cut (Lib.decDigits k) [47] = (Lib.decDigits k, [], false)) && decide (Lib.cut (Lib.decDigits k) [45] = (Lib.decDigits k, [], false)) && decide (Lib.cut (42 :: 47 :: Lib.decDigits k) [47] = ([42], Lib.decDigits k, true))
theorem cutNum_all : (List.range 100).all cutNum = true := by decide +kernel
def cutRange (a b : Nat) : Bool := decide (Lib.cut (Lib.decDigits a ++ 45 :: Lib.decDigits b) [47] = (Lib.decDigits a ++ 45 :: Lib.decDigits b, [], false)) && decide (Lib.cut (Lib.decDigits a ++ 45 :: Lib.decDigits b) [45] = (Lib.decDigits a, Lib.decDigits b, true))
theorem cutRange_all : ((List.range 64).all fun a => (List.range 64).all fun b => cutRange a b) = true := by decide +kernel
theorem cut_num {n : Nat} (h : n < 100) : Lib.cut (Lib.decDigits n) [47] = (Lib.decDigits n, [], false) ∧ Lib.cut (Lib.decDigits n) [45] = (Lib.decDigits n, [], false) ∧ Lib.cut (42 :: 47 :: Lib.decDigits n) [47] = ([42], Lib.decDigits n, true) := by
  have h := List.all_eq_true.1 cutNum_all n (List.mem_range.2 h)
  unfold cutNum at h
  simp only [Bool.and_eq_true, decide_eq_true_eq] at h
  exact ⟨h.1.1, h.1.2, h.2⟩
theorem cut_range {a b : Nat} (h1 : a < 64) (h2 : b < 64) : Lib.cut (Lib.decDigits a ++ 45 :: Lib.decDigits b) [47] = (Lib.decDigits a ++ 45 :: Lib.decDigits b, [], false) ∧ Lib.cut (Lib.decDigits a ++ 45 :: Lib.decDigits b) [45] = (Lib.decDigits a, Lib.decDigits b, true) := by
  have h := List.all_eq_true.1 (List.all_eq_true.1 cutRange_all a (List.mem_range.2 h1)) b (List.mem_range.2 h2)
  unfold cutRange at h
  simp only [Bool.and_eq_true, decide_eq_true_eq] at h
  exact h
theorem cut_star : Lib.cut [42] [47] = ([42], [], false) := by decide

end Go.Proofs.YtlhaidibcocooaaGreatDoor
