/- The tree's lists: a list is loaded, step by step (plain). -/
import Derived.Test.YtclhdppepopgeaaGreatDoorTrKn
namespace Go.Proofs.YtclhdppepopgeaaGreatDoor

theorem loadT_app : ∀ (l m : List FE) (s : TS), loadT s (l ++ m) = match loadT s l with | none => none | some s' => loadT s' m
  | [], _, _ => rfl
  | e :: l, m, s => by
    rw [List.cons_append, loadT, loadT]
    cases h : stepT s e with
    | none => rfl
    | some s' =>
      dsimp only
      exact loadT_app l m s'
theorem loadT_one (s : TS) (e : FE) : loadT s [e] = stepT s e := by
  rw [loadT]
  cases stepT s e <;> rfl
/-- the first k entries are loaded -/
theorem loadT_next {s s' : TS} {l : List FE} {k : Nat} (h : loadT s (l.take k) = some s') (hk : k < l.length) : loadT s (l.take (k + 1)) = stepT s' l[k] := by
  rw [List.take_succ_eq_append_getElem hk, loadT_app, h]
  exact loadT_one _ _
theorem loadT_fail {s s' : TS} {l : List FE} {k : Nat} (h : loadT s (l.take k) = some s') (hk : k < l.length) (hf : stepT s' l[k] = none) : loadT s l = none := by
  have h1 := loadT_next h hk
  rw [hf] at h1
  have h2 : l = l.take (k + 1) ++ l.drop (k + 1) := (List.take_append_drop _ _).symm
  rw [h2, loadT_app, h1]
/-- what is answered -/
theorem answer_many {l : List FE} (h : 2001 < l.length) : answerT l = 2 := by unfold answerT; rw [if_pos (.inl h)]
theorem answer_alone {l : List FE} (h : 2000 < aloneT l) : answerT l = 2 := by unfold answerT; rw [if_pos (.inr h)]
theorem answer_of {e : FE} {r : List FE} (h1 : ¬ 2001 < (e :: r).length) (h2 : ¬ 2000 < aloneT (e :: r)) : answerT (e :: r) = if e.path ≠ slash ∨ e.kind ≠ 2 ∨ rightB e = false then 5 else
    match loadT (startT e) r with
    | none => 5
    | some s => if allT s = e :: r ∧ usedT s ≤ 1048576 then 0 else 5 := by
  unfold answerT
  rw [if_neg (by simp only [not_or]; exact ⟨h1, h2⟩)]
  rfl
end Go.Proofs.YtclhdppepopgeaaGreatDoor
