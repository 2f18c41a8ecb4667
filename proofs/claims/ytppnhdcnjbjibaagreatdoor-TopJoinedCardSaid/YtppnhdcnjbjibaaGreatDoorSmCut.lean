/- Stable sorting, plain: the cut of symMerge, and the two parts put together. -/
import Derived.Test.YtppnhdcnjbjibaaGreatDoorSmBlk
namespace Go.Proofs.YtppnhdcnjbjibaaGreatDoor

section
variable {α : Type} {key : α → Int}
/-- where symMerge's search stops: all ahead of the middle come ahead of all behind it -/
theorem sym_cut {X Y : List (Nat × α)} (hX : Srt key X) (hY : Srt key Y) (ht : Tags X Y) {s h : Nat} (hs : s ≤ X.length) (hh : s ≤ h) (hv : h - s ≤ Y.length)
    (h1 : ∀ q : 0 < s ∧ s - 1 < X.length ∧ h - s < Y.length, ¬ key (Y[h - s]'q.2.2).2 < key (X[s - 1]'q.2.1).2)
    (h2 : ∀ q : s < X.length ∧ s < h ∧ h - 1 - s < Y.length, key (Y[h - 1 - s]'q.2.2).2 < key (X[s]'q.1).2) :
    ∀ x ∈ X.take s ++ Y.take (h - s), ∀ y ∈ X.drop s ++ Y.drop (h - s), Ahead key x y := by
  refine cut_ahead hX hY hs hv (fun a b => ?_) (fun a b => ?_)
  · exact ahead_of_not (ht _ (List.getElem_mem _) _ (List.getElem_mem _)) (h1 ⟨a, by omega, b⟩)
  · have e : h - s - 1 = h - 1 - s := by omega
    have := h2 ⟨a, by omega, by omega⟩
    refine ahead_of_less ?_
    simp only [e]
    exact this
/-- a part of which one side is empty is in order as it is -/
theorem part_done {A B : List (Nat × α)} (hA : Srt key A) (hB : Srt key B) (h : A = [] ∨ B = []) : Srt key (A ++ B) := by
  rcases h with rfl | rfl
  · simpa using hB
  · simpa using hA
/-- the rotation of symMerge; where one of the two ranges is empty it is not called -/
theorem no_turn {A B : List (Nat × α)} (h : A = [] ∨ B = []) (P S : List (Nat × α)) : P ++ A ++ B ++ S = P ++ B ++ A ++ S := by
  rcases h with rfl | rfl <;> simp
/-- at the end of symMerge's search: both lists are cut, and what is merged of the parts is merged of the whole -/
theorem search_end {X Y : List (Nat × α)} (hX : Srt key X) (hY : Srt key Y) (ht : Tags X Y) {u v k s s0 r0 : Nat} (hu : X.length = u) (hv : Y.length = v) (hsr : (s0 = 0 ∨ k = v + s0) ∧ (r0 = k ∨ r0 = u) ∧ s0 ≤ r0 ∧ r0 ≤ k ∧ r0 ≤ u ∧ k ≤ v + s0) (hs : s0 ≤ s ∧ s ≤ r0)
    (HL : ∀ q : s0 < s ∧ s - 1 < X.length ∧ k - s < Y.length, ¬ key (Y[k - s]'q.2.2).2 < key (X[s - 1]'q.2.1).2)
    (HR : ∀ q : s < r0 ∧ s < X.length ∧ k - 1 - s < Y.length, key (Y[k - 1 - s]'q.2.2).2 < key (X[s]'q.2.1).2) :
    ∃ X1 X2 Y1 Y2, X = X1 ++ X2 ∧ Y = Y1 ++ Y2 ∧ X1.length = s ∧ X1.length + Y1.length = k ∧ (Srt key X1 ∧ Srt key Y1 ∧ Tags X1 Y1) ∧ (Srt key X2 ∧ Srt key Y2 ∧ Tags X2 Y2) ∧
      (∀ Z1 Z2 : List (Nat × α), Z1.Perm (X1 ++ Y1) → Srt key Z1 → Z2.Perm (X2 ++ Y2) → Srt key Z2 → (Z1 ++ Z2).Perm (X ++ Y) ∧ Srt key (Z1 ++ Z2)) := by
  have hc := sym_cut hX hY ht (s := s) (h := k) (by omega) (by omega) (by omega) (fun q => HL ⟨by omega, q.2⟩) (fun q => HR ⟨by omega, q.1, q.2.2⟩)
  refine ⟨X.take s, X.drop s, Y.take (k - s), Y.drop (k - s), (List.take_append_drop _ _).symm, (List.take_append_drop _ _).symm, by simp; omega, by simp; omega, ⟨hX.sublist (List.take_sublist _ _), hY.sublist (List.take_sublist _ _), ht.sub (fun _ h => List.mem_of_mem_take h) (fun _ h => List.mem_of_mem_take h)⟩, ⟨hX.sublist (List.drop_sublist _ _), hY.sublist (List.drop_sublist _ _), ht.sub (fun _ h => List.mem_of_mem_drop h) (fun _ h => List.mem_of_mem_drop h)⟩, fun Z1 Z2 p1 s1 p2 s2 => merged hc p1 s1 p2 s2⟩
end
end Go.Proofs.YtppnhdcnjbjibaaGreatDoor
