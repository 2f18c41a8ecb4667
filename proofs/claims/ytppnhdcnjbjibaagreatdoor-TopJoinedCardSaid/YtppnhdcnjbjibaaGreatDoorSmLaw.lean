/- Stable sorting, plain: lists of tagged elements; merging by rotations. -/
import Derived.Test.YtppnhdcnjbjibaaGreatDoorBase
namespace Go.Proofs.YtppnhdcnjbjibaaGreatDoor

section
variable {α : Type} (key : α → Int)
/-- an element with its tag (its place at the beginning) comes ahead of another one -/
def Ahead (x y : Nat × α) : Prop := key x.2 < key y.2 ∨ (key x.2 = key y.2 ∧ x.1 < y.1)
variable {key}
theorem Ahead.trans {x y z : Nat × α} (h : Ahead key x y) (k : Ahead key y z) : Ahead key x z := by
  unfold Ahead at *
  omega
/-- of an element with a greater tag: it is not less in the keys' order -/
theorem ahead_of_not {x y : Nat × α} (ht : x.1 < y.1) (h : ¬ key y.2 < key x.2) : Ahead key x y := by
  unfold Ahead
  omega
theorem ahead_of_less {x y : Nat × α} (h : key x.2 < key y.2) : Ahead key x y := .inl h
variable (key)
/-- in order -/
def Srt (l : List (Nat × α)) : Prop := l.Pairwise (Ahead key)
/-- the tags of the first list are less than those of the second one -/
def Tags (l m : List (Nat × α)) : Prop := ∀ x ∈ l, ∀ y ∈ m, x.1 < y.1
variable {key}
theorem Tags.sub {l m l' m' : List (Nat × α)} (h : Tags l m) (hl : ∀ x ∈ l', x ∈ l) (hm : ∀ x ∈ m', x ∈ m) : Tags l' m' := fun x hx y hy => h x (hl x hx) y (hm y hy)
theorem srt_app {l m : List (Nat × α)} : Srt key (l ++ m) ↔ Srt key l ∧ Srt key m ∧ ∀ x ∈ l, ∀ y ∈ m, Ahead key x y := List.pairwise_append
/-- the bound of two ordered lists that are cut -/
theorem cut_ahead {X Y : List (Nat × α)} (hX : Srt key X) (hY : Srt key Y) {s t : Nat} (hs : s ≤ X.length) (ht : t ≤ Y.length)
    (h1 : ∀ (a : 0 < s) (b : t < Y.length), Ahead key (X[s - 1]'(by omega)) Y[t]) (h2 : ∀ (a : s < X.length) (b : 0 < t), Ahead key (Y[t - 1]'(by omega)) X[s]) :
    (∀ x ∈ X.take s ++ Y.take t, ∀ y ∈ X.drop s ++ Y.drop t, Ahead key x y) := by
  have le_of : ∀ {Z : List (Nat × α)}, Srt key Z → ∀ i j (hi : i < Z.length) (hj : j < Z.length), i < j → Ahead key Z[i] Z[j] := fun hZ i j hi hj h => List.pairwise_iff_getElem.1 hZ i j hi hj h
  intro x hx y hy
  rcases List.mem_append.1 hx with hx | hx <;> rcases List.mem_append.1 hy with hy | hy
  all_goals
    obtain ⟨i, hi, rfl⟩ := List.mem_iff_getElem.1 hx
    obtain ⟨j, hj, rfl⟩ := List.mem_iff_getElem.1 hy
    simp only [List.length_take, List.length_drop] at hi hj
    simp only [List.getElem_take, List.getElem_drop]
  · exact le_of hX _ _ (by omega) (by omega) (by omega)
  · have ha := h1 (by omega) (by omega)
    have hl : Ahead key X[i] Y[t] := by
      by_cases e : i = s - 1
      · subst e; exact ha
      · exact (le_of hX i (s - 1) (by omega) (by omega) (by omega)).trans ha
    by_cases e : j = 0
    · subst e; exact hl
    · exact hl.trans (le_of hY t (t + j) (by omega) (by omega) (by omega))
  · have ha := h2 (by omega) (by omega)
    have hl : Ahead key Y[i] X[s] := by
      by_cases e : i = t - 1
      · subst e; exact ha
      · exact (le_of hY i (t - 1) (by omega) (by omega) (by omega)).trans ha
    by_cases e : j = 0
    · subst e; exact hl
    · exact hl.trans (le_of hX s (s + j) (by omega) (by omega) (by omega))
  · exact le_of hY _ _ (by omega) (by omega) (by omega)
/-- two parts that are merged each -/
theorem merged {X Y Z1 Z2 : List (Nat × α)} {s t : Nat} (h : ∀ x ∈ X.take s ++ Y.take t, ∀ y ∈ X.drop s ++ Y.drop t, Ahead key x y)
    (p1 : Z1.Perm (X.take s ++ Y.take t)) (s1 : Srt key Z1) (p2 : Z2.Perm (X.drop s ++ Y.drop t)) (s2 : Srt key Z2) : (Z1 ++ Z2).Perm (X ++ Y) ∧ Srt key (Z1 ++ Z2) := by
  refine ⟨?_, srt_app.2 ⟨s1, s2, fun x hx y hy => h x (p1.mem_iff.1 hx) y (p2.mem_iff.1 hy)⟩⟩
  refine (p1.append p2).trans ?_
  have e : (X.take s ++ Y.take t ++ (X.drop s ++ Y.drop t)).Perm (X.take s ++ X.drop s ++ (Y.take t ++ Y.drop t)) := by
    rw [List.append_assoc, List.append_assoc]
    refine List.Perm.append_left _ ?_
    rw [← List.append_assoc, ← List.append_assoc]
    exact List.Perm.append_right _ List.perm_append_comm
  rwa [List.take_append_drop, List.take_append_drop] at e
/-- one element ahead of an ordered list -/
theorem put_first {x : Nat × α} {Y : List (Nat × α)} (hY : Srt key Y) {k : Nat} (hk : k ≤ Y.length) (ht : ∀ y ∈ Y, x.1 < y.1)
    (h1 : ∀ (a : 0 < k), key (Y[k - 1]'(by omega)).2 < key x.2) (h2 : ∀ (a : k < Y.length), ¬ key Y[k].2 < key x.2) :
    (Y.take k ++ x :: Y.drop k).Perm (x :: Y) ∧ Srt key (Y.take k ++ x :: Y.drop k) := by
  have hc := cut_ahead (X := [x]) (Y := Y) (s := 0) (t := k) (List.pairwise_singleton _ _) hY (by simp) hk (fun a => by omega) (fun _ b => ahead_of_less (h1 b))
  have h3 : ∀ y ∈ Y.drop k, Ahead key x y := by
    intro y hy
    obtain ⟨j, hj, rfl⟩ := List.mem_iff_getElem.1 hy
    simp only [List.length_drop] at hj
    simp only [List.getElem_drop]
    have ha : Ahead key x Y[k] := ahead_of_not (ht _ (List.getElem_mem _)) (h2 (by omega))
    by_cases e : j = 0
    · subst e; exact ha
    · exact ha.trans (List.pairwise_iff_getElem.1 hY k (k + j) (by omega) (by omega) (by omega))
  refine ⟨?_, ?_⟩
  · have := List.perm_middle (a := x) (l₁ := Y.take k) (l₂ := Y.drop k)
    rwa [List.take_append_drop] at this
  · refine srt_app.2 ⟨hY.sublist (List.take_sublist _ _), List.pairwise_cons.2 ⟨h3, hY.sublist (List.drop_sublist _ _)⟩, fun u hu v hv => hc u (by simpa using hu) v (by simpa using hv)⟩
/-- one element behind an ordered list -/
theorem put_last {x : Nat × α} {X : List (Nat × α)} (hX : Srt key X) {k : Nat} (hk : k ≤ X.length) (ht : ∀ y ∈ X, y.1 < x.1)
    (h1 : ∀ (a : 0 < k), ¬ key x.2 < key (X[k - 1]'(by omega)).2) (h2 : ∀ (a : k < X.length), key x.2 < key X[k].2) :
    (X.take k ++ x :: X.drop k).Perm (X ++ [x]) ∧ Srt key (X.take k ++ x :: X.drop k) := by
  have hc := cut_ahead (X := X) (Y := [x]) (s := k) (t := 0) hX (List.pairwise_singleton _ _) hk (by simp) (fun a b => by
    simp only [List.getElem_cons_zero]
    exact ahead_of_not (ht _ (List.getElem_mem _)) (h1 a)) (fun _ b => by omega)
  have h3 : ∀ y ∈ X.drop k, Ahead key x y := by
    intro y hy
    obtain ⟨j, hj, rfl⟩ := List.mem_iff_getElem.1 hy
    simp only [List.length_drop] at hj
    simp only [List.getElem_drop]
    have ha : Ahead key x X[k] := ahead_of_less (h2 (by omega))
    by_cases e : j = 0
    · subst e; exact ha
    · exact ha.trans (List.pairwise_iff_getElem.1 hX k (k + j) (by omega) (by omega) (by omega))
  refine ⟨?_, ?_⟩
  · have := List.perm_middle (a := x) (l₁ := X.take k) (l₂ := X.drop k)
    rw [List.take_append_drop] at this
    exact this.trans (List.perm_append_comm (l₁ := [x]) (l₂ := X))
  · refine srt_app.2 ⟨hX.sublist (List.take_sublist _ _), List.pairwise_cons.2 ⟨h3, hX.sublist (List.drop_sublist _ _)⟩, fun u hu v hv => hc u (by simpa using hu) v (by simpa [or_comm] using hv)⟩
end
end Go.Proofs.YtppnhdcnjbjibaaGreatDoor
