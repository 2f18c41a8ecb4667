/- The tree's lists, plain: how long a dump is. -/
import Derived.Test.YtclhdppepopgeaaGreatDoorTrLaw
namespace Go.Proofs.YtclhdppepopgeaaGreatDoor

theorem seen_snoc : ∀ (l : List (Nat × ByteArray)) (i : Nat) (p : ByteArray) (j : Nat), seenD (l ++ [(i, p)]) j = (match seenD l j with | some q => some q | none => if i = j then some p else none)
  | [], i, p, j => by
    rw [List.nil_append, seenD, seenD]
    rfl
  | q :: l, i, p, j => by
    rw [List.cons_append, seenD, seenD]
    by_cases h : q.1 = j
    · rw [if_pos h, if_pos h]
    · rw [if_neg h, if_neg h]
      exact seen_snoc l i p j
/-- how many entries lie in what was not seen -/
def restN (s : TS) (seen : List (Nat × ByteArray)) : Nat := ((List.range s.nds.length).map fun i => if (seenD seen i).isSome then 0 else (s.en i).length).sum
theorem sum_one (f g : Nat → Nat) (i : Nat) : ∀ (l : List Nat), l.Nodup → i ∈ l → (∀ j, j ≠ i → g j = f j) → g i = 0 → (l.map g).sum + f i = (l.map f).sum
  | [], _, h, _, _ => by cases h
  | j :: l, hn, h, hg, h0 => by
    rw [List.map_cons, List.sum_cons, List.map_cons, List.sum_cons]
    have hn2 := List.nodup_cons.1 hn
    by_cases hj : j = i
    · subst hj
      have e : l.map g = l.map f := List.map_congr_left fun k hk => hg k (fun e => hn2.1 (e ▸ hk))
      rw [e, h0]
      omega
    · have hm : i ∈ l := by
        rcases List.mem_cons.1 h with h | h
        · exact absurd h.symm hj
        · exact h
      have := sum_one f g i l hn2.2 hm hg h0
      rw [hg j hj]
      omega
theorem rest_add (s : TS) (seen : List (Nat × ByteArray)) (i : Nat) (p : ByteArray) (hi : i < s.nds.length) (h : seenD seen i = none) : restN s (seen ++ [(i, p)]) + (s.en i).length = restN s seen := by
  have h1 := sum_one (fun j => if (seenD seen j).isSome then 0 else (s.en j).length) (fun j => if (seenD (seen ++ [(i, p)]) j).isSome then 0 else (s.en j).length) i (List.range s.nds.length) List.nodup_range (List.mem_range.2 hi) (fun j hj => by
    rw [seen_snoc]
    cases hs : seenD seen j with
    | some q => rfl
    | none =>
      have e : (if i = j then some p else none) = (none : Option ByteArray) := if_neg (fun e => hj e.symm)
      simp [e]) (by
    rw [seen_snoc, h]
    dsimp only
    rw [if_pos rfl]
    rfl)
  rw [h] at h1
  exact h1
theorem names_len (l : AL) : (namesT l).length = l.length := by unfold namesT; rw [List.length_map, List.length_mergeSort, List.length_map]
/-- a child's place -/
theorem child_lt {s : TS} {N : Nat} (hw : WF s N) (i : Nat) (k : ByteArray) : (getA (s.en i) k).getD 0 < s.nds.length := by
  cases h : getA (s.en i) k with
  | none => exact hw.pos
  | some j => exact (hw.val i _ (getA_mem _ _ _ h)).1
/-- what a dump does with the names -/
abbrev stepD (s : TS) (f : Nat) (path : ByteArray) (i : Nat) (st : DS) (name : ByteArray) : DS := dumpT s f (belowP path name) ((getA (s.en i) name).getD 0) st
theorem dump_len {s : TS} {N : Nat} (hw : WF s N) : ∀ (f : Nat) (path : ByteArray) (i : Nat) (st : DS), i < s.nds.length → (dumpT s f path i st).1.length + restN s (dumpT s f path i st).2 ≤ st.1.length + restN s st.2 + 1
  | 0, _, _, _, _ => Nat.le_succ _
  | f + 1, path, i, st, hi => by
    unfold dumpT
    cases h : seenD st.2 i with
    | some first => simp; omega
    | none =>
      dsimp only
      have key : ∀ (names : List ByteArray) (st : DS), (names.foldl (fun st name => dumpT s f (belowP path name) ((getA (s.en i) name).getD 0) st) st).1.length + restN s (names.foldl (fun st name => dumpT s f (belowP path name) ((getA (s.en i) name).getD 0) st) st).2 ≤ st.1.length + restN s st.2 + names.length := fun names => by
        induction names with
        | nil => intro st; exact Nat.le_refl _
        | cons n names ih =>
          intro st
          rw [List.foldl_cons, List.length_cons]
          have h1 := ih (dumpT s f (belowP path n) ((getA (s.en i) n).getD 0) st)
          have h2 := dump_len hw f (belowP path n) ((getA (s.en i) n).getD 0) st (child_lt hw i n)
          omega
      have h1 := key (namesT (s.en i)) (st.1 ++ [fullE s path i], st.2 ++ [(i, path)])
      have h2 := rest_add s st.2 i path hi h
      rw [names_len] at h1
      simp only [List.length_append, List.length_cons, List.length_nil] at h1
      omega
theorem fold_len {s : TS} {N : Nat} (hw : WF s N) (f : Nat) (path : ByteArray) (i : Nat) : ∀ (names : List ByteArray) (st : DS), (names.foldl (stepD s f path i) st).1.length + restN s (names.foldl (stepD s f path i) st).2 ≤ st.1.length + restN s st.2 + names.length
  | [], st => Nat.le_refl _
  | n :: names, st => by
    rw [List.foldl_cons, List.length_cons]
    have h1 := fold_len hw f path i names (stepD s f path i st n)
    have h2 : (stepD s f path i st n).1.length + restN s (stepD s f path i st n).2 ≤ st.1.length + restN s st.2 + 1 := dump_len hw f (belowP path n) ((getA (s.en i) n).getD 0) st (child_lt hw i n)
    omega
theorem rest_le {s : TS} {N : Nat} (hw : WF s N) (seen : List (Nat × ByteArray)) : restN s seen ≤ s.nds.length * N := by
  unfold restN
  have key : ∀ (l : List Nat), (l.map fun i => if (seenD seen i).isSome then 0 else (s.en i).length).sum ≤ l.length * N := fun l => by
    induction l with
    | nil => simp
    | cons j l ih =>
      rw [List.map_cons, List.sum_cons, List.length_cons, Nat.succ_mul]
      have : (if (seenD seen j).isSome then 0 else (s.en j).length) ≤ N := by
        split
        · exact Nat.zero_le _
        · exact hw.ent j
      omega
  have := key (List.range s.nds.length)
  rwa [List.length_range] at this
theorem trim_le (a b : List UInt8) : (Lib.trimSuffix a b).length ≤ a.length := by
  unfold Lib.trimSuffix
  split
  · rw [List.length_take]; omega
  · exact Nat.le_refl _
theorem below_size (path name : ByteArray) : (belowP path name).size ≤ path.size + 1 + name.size := by
  have h := trim_le path.data.toList [47]
  have e1 := Lib.size_eq path
  have e2 := Lib.size_eq name
  have e3 : (belowP path name).size = (Lib.trimSuffix path.data.toList [47] ++ 47 :: name.data.toList).length := Lib.size_eq _
  rw [e3, List.length_append, List.length_cons]
  omega
theorem names_mem {l : AL} {k : ByteArray} (h : k ∈ namesT l) : ∃ p ∈ l, p.1 = k := by
  unfold namesT at h
  obtain ⟨t, ht, rfl⟩ := List.mem_map.1 h
  obtain ⟨p, hp, rfl⟩ := List.mem_map.1 (List.mem_mergeSort.1 ht)
  exact ⟨p, hp, rfl⟩
theorem getA_of_mem : ∀ (l : AL) (k : ByteArray), (∃ p ∈ l, p.1 = k) → ∃ j, getA l k = some j
  | [], _, h => by obtain ⟨p, hp, _⟩ := h; cases hp
  | q :: l, k, h => by
    unfold getA
    by_cases hq : q.1 = k
    · rw [if_pos hq]; exact ⟨_, rfl⟩
    · rw [if_neg hq]
      obtain ⟨p, hp, hk⟩ := h
      rcases List.mem_cons.1 hp with rfl | hp
      · exact absurd hk hq
      · exact getA_of_mem l k ⟨p, hp, hk⟩
end Go.Proofs.YtclhdppepopgeaaGreatDoor
