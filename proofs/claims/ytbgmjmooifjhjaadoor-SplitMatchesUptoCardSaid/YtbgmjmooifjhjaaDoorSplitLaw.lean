/- SplitMatches, the plain law: a text divided into fields. Plain Lean; no program in sight. -/
import Derived.Test.YtbgmjmooifjhjaaDoorBase
import Derived.Lib.IndexLaws
namespace Go.Proofs.YtbgmjmooifjhjaaDoor
open Go.RowKit

/-- whether a byte of a sort stands in a place -/
def atB (T : List UInt8) (i : Nat) (p : UInt8 → Bool) : Bool := match T.drop i with | c :: _ => p c | [] => false
theorem atB_of {T : List UInt8} {i : Nat} {c : UInt8} {r : List UInt8} (h : T.drop i = c :: r) (p : UInt8 → Bool) : atB T i p = p c := by unfold atB; rw [h]
theorem atB_end {T : List UInt8} {i : Nat} (h : T.length ≤ i) (p : UInt8 → Bool) : atB T i p = false := by unfold atB; rw [List.drop_eq_nil_of_le h]
theorem drop_at {T : List UInt8} {i : Nat} (h : i < T.length) : T.drop i = T[i] :: T.drop (i + 1) := List.drop_eq_getElem_cons h
theorem atB_at {T : List UInt8} {i : Nat} (h : i < T.length) (p : UInt8 → Bool) : atB T i p = p T[i] := atB_of (drop_at h) p
theorem atB_lt {T : List UInt8} {i : Nat} {p : UInt8 → Bool} (h : atB T i p = true) : i < T.length := by
  rcases Nat.lt_or_ge i T.length with h1 | h1
  · exact h1
  · rw [atB_end h1] at h; cases h

/-- what is behind a separation, and whether it is one of blanks alone -/
def sepE (isB isW : UInt8 → Bool) (l : List UInt8) : List UInt8 × Bool :=
  match l.dropWhile isB with
  | [] => ([], true)
  | c :: r => if isW c then (r.dropWhile isB, false) else (c :: r, true)
theorem dropW_le (p : UInt8 → Bool) (l : List UInt8) : (l.dropWhile p).length ≤ l.length := (List.dropWhile_suffix p).length_le
theorem sepE_lt {isB isW : UInt8 → Bool} {c : UInt8} {r : List UInt8} (h : isB c = true ∨ isW c = true) : (sepE isB isW (c :: r)).1.length < (c :: r).length := by
  unfold sepE
  cases hb : isB c with
  | true =>
    rw [List.dropWhile_cons_of_pos hb]
    have h1 := dropW_le isB r
    split
    · simp
    · rename_i d s hd
      rw [hd] at h1
      have h2 := dropW_le isB s
      simp only [List.length_cons] at h1 ⊢
      split
      · dsimp only; omega
      · simp only [List.length_cons]; omega
  | false =>
    rw [List.dropWhile_cons_of_neg (by simp [hb])]
    have hw : isW c = true := by rw [hb] at h; simpa using h
    have h1 := dropW_le isB r
    simp only [hw, if_true, List.length_cons]
    omega
theorem dropW_step {T : List UInt8} {k : Nat} {p : UInt8 → Bool} (h : atB T k p = true) : (T.drop (k + 1)).dropWhile p = (T.drop k).dropWhile p := by
  have hk := atB_lt h
  rw [atB_at hk] at h
  rw [drop_at hk, List.dropWhile_cons_of_pos h]
theorem dropW_stop {T : List UInt8} {k : Nat} {p : UInt8 → Bool} (h : atB T k p = false) : (T.drop k).dropWhile p = T.drop k := by
  unfold atB at h
  split at h
  · rename_i c r hc
    rw [hc, List.dropWhile_cons_of_neg (by simp [h])]
  · rename_i hc
    rw [hc]; rfl
theorem sepE_stay {isB isW : UInt8 → Bool} {T l : List UInt8} {k : Nat} (h : T.drop k = l.dropWhile isB) (hw : atB T k isW = false) : sepE isB isW l = (T.drop k, true) := by
  unfold sepE
  rw [← h]
  unfold atB at hw
  split
  · rename_i hc; rw [hc]
  · rename_i c r hc
    rw [hc] at hw
    rw [if_neg (by simpa using hw), hc]
theorem sepE_go {isB isW : UInt8 → Bool} {T l : List UInt8} {k : Nat} (h : T.drop k = l.dropWhile isB) (hw : atB T k isW = true) : sepE isB isW l = ((T.drop (k + 1)).dropWhile isB, false) := by
  have hk := atB_lt hw
  rw [atB_at hk] at hw
  unfold sepE
  rw [← h, drop_at hk]
  dsimp only
  rw [if_pos hw]
/-- a text divided into fields; part: the bytes of the field that was begun -/
def divL (isB isW : UInt8 → Bool) (part : List UInt8) (l : List UInt8) : List (List UInt8) :=
  match l with
  | [] => if part = [] then [] else [part]
  | c :: r =>
    if _h : isB c = true ∨ isW c = true then (if (sepE isB isW (c :: r)).2 = true ∧ part = [] then [] else [part]) ++ divL isB isW [] (sepE isB isW (c :: r)).1
    else divL isB isW (part ++ [c]) r
termination_by l.length
decreasing_by
  · exact sepE_lt _h
  · simp
theorem divL_nil (isB isW : UInt8 → Bool) (part : List UInt8) : divL isB isW part [] = if part = [] then [] else [part] := by rw [divL]
theorem divL_sep {isB isW : UInt8 → Bool} {c : UInt8} {r : List UInt8} (part : List UInt8) (h : isB c = true ∨ isW c = true) :
    divL isB isW part (c :: r) = (if (sepE isB isW (c :: r)).2 = true ∧ part = [] then [] else [part]) ++ divL isB isW [] (sepE isB isW (c :: r)).1 := by
  rw [divL, dif_pos h]
theorem divL_put {isB isW : UInt8 → Bool} {c : UInt8} {r : List UInt8} (part : List UInt8) (h : ¬ (isB c = true ∨ isW c = true)) : divL isB isW part (c :: r) = divL isB isW (part ++ [c]) r := by
  rw [divL, dif_neg h]

/-- the blanks of separators, and the others -/
def plainS : List UInt8 := [32, 9, 10]
def blankF (F : List UInt8) : List UInt8 := F.filter fun c => plainS.contains c
def wideF (F : List UInt8) : List UInt8 := F.filter fun c => !plainS.contains c
def inL (l : List UInt8) (c : UInt8) : Bool := l.contains c
theorem inL_blank (F : List UInt8) (c : UInt8) : inL (blankF F) c = (inL F c && plainS.contains c) := by
  unfold inL blankF
  rw [Bool.eq_iff_iff]
  simp [List.mem_filter]
theorem inL_wide (F : List UInt8) (c : UInt8) : inL (wideF F) c = (inL F c && !plainS.contains c) := by
  unfold inL wideF
  rw [Bool.eq_iff_iff]
  simp [List.mem_filter]
theorem inL_sep (F : List UInt8) (c : UInt8) : (inL (blankF F) c || inL (wideF F) c) = inL F c := by
  rw [inL_blank, inL_wide]
  cases inL F c <;> cases plainS.contains c <;> rfl
/-- where a byte stands in a text: whether it does -/
theorem index_in (l : List UInt8) (c : UInt8) : decide (0 ≤ Lib.indexByte l c) = inL l c := by
  unfold inL
  have hge := Lib.indexByte_ge l c
  rcases Int.lt_or_le (Lib.indexByte l c) 0 with hn | hn
  · rw [decide_eq_false (by omega)]
    have := Lib.indexByte_none (l := l) (c := c) (by omega)
    symm
    rw [Bool.eq_false_iff]
    intro h
    rw [List.contains_iff_mem] at h
    obtain ⟨j, hj, e⟩ := List.getElem_of_mem h
    exact this j (by rw [List.getElem?_eq_getElem hj, e])
  · rw [decide_eq_true hn]
    obtain ⟨o, ho⟩ := Int.eq_ofNat_of_zero_le hn
    obtain ⟨h1, h2⟩ := Lib.indexByte_some ho
    symm
    rw [List.contains_iff_mem]
    exact List.mem_of_getElem? h1

end Go.Proofs.YtbgmjmooifjhjaaDoor
