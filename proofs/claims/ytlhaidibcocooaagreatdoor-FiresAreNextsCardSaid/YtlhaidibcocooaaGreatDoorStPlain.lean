/- FiresAreNexts, plain: the list of the minutes of all lines. -/
import Derived.Test.YtlhaidibcocooaaGreatDoorBase
import Derived.Test.YtlhaidibcocooaaGreatDoorOnly
namespace Go.Proofs.YtlhaidibcocooaaGreatDoor

section
variable {α : Type} (key : α → Int)
/-- an element with its tag (its place at the beginning) comes ahead of another one -/
def Ahead (x y : Nat × α) : Prop := key x.2 < key y.2 ∨ (key x.2 = key y.2 ∧ x.1 < y.1)
variable {key}
theorem Ahead.trans {x y z : Nat × α} (h : Ahead key x y) (k : Ahead key y z) : Ahead key x z := by
  unfold Ahead at *
  omega
/-- of an element with a greater tag: it is not less in the keys' order -/
theorem ahead_of_not {x y : Nat × α} (ht : x.1 < y.1) (h : ¬ key y.2 < key x.2) : Ahead key x y := by
  unfold Ahead
  omega
theorem ahead_of_less {x y : Nat × α} (h : key x.2 < key y.2) : Ahead key x y := .inl h
variable (key)
/-- in order -/
def Srt (l : List (Nat × α)) : Prop := l.Pairwise (Ahead key)
/-- the tags of the first list are less than those of the second one -/
def Tags (l m : List (Nat × α)) : Prop := ∀ x ∈ l, ∀ y ∈ m, x.1 < y.1
variable {key}
theorem Tags.sub {l m l' m' : List (Nat × α)} (h : Tags l m) (hl : ∀ x ∈ l', x ∈ l) (hm : ∀ x ∈ m', x ∈ m) : Tags l' m' := fun x hx y hy => h x (hl x hx) y (hm y hy)
theorem srt_app {l m : List (Nat × α)} : Srt key (l ++ m) ↔ Srt key l ∧ Srt key m ∧ ∀ x ∈ l, ∀ y ∈ m, Ahead key x y := List.pairwise_append
/-- the bound of two ordered lists that are cut -/
theorem cut_ahead {X Y : List (Nat × α)} (hX : Srt key X) (hY : Srt key Y) {s t : Nat} (hs : s ≤ X.length) (ht : t ≤ Y.length)
    (h1 : ∀ (a : 0 < s) (b : t < Y.length), Ahead key (X[s - 1]'(by omega)) Y[t]) (h2 : ∀ (a : s < X.length) (b : 0 < t), Ahead key (Y[t - 1]'(by omega)) X[s]) :
    (∀ x ∈ X.take s ++ Y.take t, ∀ y ∈ X.drop s ++ Y.drop t, Ahead key x y) := by
  have le_of : ∀ {Z : List (Nat × α)}, Srt key Z → ∀ i j (hi : i < Z.length) (hj : j < Z.length), i < j → Ahead key Z[i] Z[j] := fun hZ i j hi hj h => List.pairwise_iff_getElem.1 hZ i j hi hj h
  intro x hx y hy
  rcases List.mem_append.1 hx with hx | hx <;> rcases List.mem_append.1 hy with hy | hy
  all_goals
    obtain ⟨i, hi, rfl⟩ := List.mem_iff_getElem.1 hx
    obtain ⟨j, hj, rfl⟩ := List.mem_iff_getElem.1 hy
    simp only [List.length_take, List.length_drop] at hi hj
    simp only [List.getElem_take, List.getElem_drop]
  · exact le_of hX _ _ (by omega) (by omega) (by omega)
  · have ha := h1 (by omega) (by omega)
    have hl : Ahead key X[i] Y[t] := by
      by_cases e : i = s - 1
      · subst e; exact ha
      · exact (le_of hX i (s - 1) (by omega) (by omega) (by omega)).trans ha
    by_cases e : j = 0
    · subst e; exact hl
    · exact hl.trans (le_of hY t (t + j) (by omega) (by omega) (by omega))
  · have ha := h2 (by omega) (by omega)
    have hl : Ahead key Y[i] X[s] := by
      by_cases e : i = t - 1
      · subst e; exact ha
      · exact (le_of hY i (t - 1) (by omega) (by omega) (by omega)).trans ha
    by_cases e : j = 0
    · subst e; exact hl
    · exact hl.trans (le_of hX s (s + j) (by omega) (by omega) (by omega))
  · exact le_of hY _ _ (by omega) (by omega) (by omega)
/-- two parts that are merged each -/
theorem merged {X Y Z1 Z2 : List (Nat × α)} {s t : Nat} (h : ∀ x ∈ X.take s ++ Y.take t, ∀ y ∈ X.drop s ++ Y.drop t, Ahead key x y)
    (p1 : Z1.Perm (X.take s ++ Y.take t)) (s1 : Srt key Z1) (p2 : Z2.Perm (X.drop s ++ Y.drop t)) (s2 : Srt key Z2) : (Z1 ++ Z2).Perm (X ++ Y) ∧ Srt key (Z1 ++ Z2) := by
  refine ⟨?_, srt_app.2 ⟨s1, s2, fun x hx y hy => h x (p1.mem_iff.1 hx) y (p2.mem_iff.1 hy)⟩⟩
  refine (p1.append p2).trans ?_
  have e : (X.take s ++ Y.take t ++ (X.drop s ++ Y.drop t)).Perm (X.take s ++ X.drop s ++ (Y.take t ++ Y.drop t)) := by
    rw [List.append_assoc, List.append_assoc]
    refine List.Perm.append_left _ ?_
    rw [← List.append_assoc, ← List.append_assoc]
    exact List.Perm.append_right _ List.perm_append_comm
  rwa [List.take_append_drop, List.take_append_drop] at e
/-- one element ahead of an ordered list -/
theorem put_first {x : Nat × α} {Y : List (Nat × α)} (hY : Srt key Y) {k : Nat} (hk : k ≤ Y.length) (ht : ∀ y ∈ Y, x.1 < y.1)
    (h1 : ∀ (a : 0 < k), key (Y[k - 1]'(by omega)).2 < key x.2) (h2 : ∀ (a : k < Y.length), ¬ key Y[k].2 < key x.2) :
    (Y.take k ++ x :: Y.drop k).Perm (x :: Y) ∧ Srt key (Y.take k ++ x :: Y.drop k) := by
  have hc := cut_ahead (X := [x]) (Y := Y) (s := 0) (t := k) (List.pairwise_singleton _ _) hY (by simp) hk (fun a => by omega) (fun _ b => ahead_of_less (h1 b))
  have h3 : ∀ y ∈ Y.drop k, Ahead key x y := by
    intro y hy
    obtain ⟨j, hj, rfl⟩ := List.mem_iff_getElem.1 hy
    simp only [List.length_drop] at hj
    simp only [List.getElem_drop]
    have ha : Ahead key x Y[k] := ahead_of_not (ht _ (List.getElem_mem _)) (h2 (by omega))
    by_cases e : j = 0
    · subst e; exact ha
    · exact ha.trans (List.pairwise_iff_getElem.1 hY k (k + j) (by omega) (by omega) (by omega))
  refine ⟨?_, ?_⟩
  · have := List.perm_middle (a := x) (l₁ := Y.take k) (l₂ := Y.drop k)
    rwa [List.take_append_drop] at this
  · refine srt_app.2 ⟨hY.sublist (List.take_sublist _ _), List.pairwise_cons.2 ⟨h3, hY.sublist (List.drop_sublist _ _)⟩, fun u hu v hv => hc u (by simpa using hu) v (by simpa using hv)⟩
/-- one element behind an ordered list -/
theorem put_last {x : Nat × α} {X : List (Nat × α)} (hX : Srt key X) {k : Nat} (hk : k ≤ X.length) (ht : ∀ y ∈ X, y.1 < x.1)
    (h1 : ∀ (a : 0 < k), ¬ key x.2 < key (X[k - 1]'(by omega)).2) (h2 : ∀ (a : k < X.length), key x.2 < key X[k].2) :
    (X.take k ++ x :: X.drop k).Perm (X ++ [x]) ∧ Srt key (X.take k ++ x :: X.drop k) := by
  have hc := cut_ahead (X := X) (Y := [x]) (s := k) (t := 0) hX (List.pairwise_singleton _ _) hk (by simp) (fun a b => by
    simp only [List.getElem_cons_zero]
    exact ahead_of_not (ht _ (List.getElem_mem _)) (h1 a)) (fun _ b => by omega)
  have h3 : ∀ y ∈ X.drop k, Ahead key x y := by
    intro y hy
    obtain ⟨j, hj, rfl⟩ := List.mem_iff_getElem.1 hy
    simp only [List.length_drop] at hj
    simp only [List.getElem_drop]
    have ha : Ahead key x X[k] := ahead_of_less (h2 (by omega))
    by_cases e : j = 0
    · subst e; exact ha
    · exact ha.trans (List.pairwise_iff_getElem.1 hX k (k + j) (by omega) (by omega) (by omega))
  refine ⟨?_, ?_⟩
  · have := List.perm_middle (a := x) (l₁ := X.take k) (l₂ := X.drop k)
    rw [List.take_append_drop] at this
    exact this.trans (List.perm_append_comm (l₁ := [x]) (l₂ := X))
  · refine srt_app.2 ⟨hX.sublist (List.take_sublist _ _), List.pairwise_cons.2 ⟨h3, hX.sublist (List.drop_sublist _ _)⟩, fun u hu v hv => hc u (by simpa using hu) v (by simpa [or_comm] using hv)⟩
end
end Go.Proofs.YtlhaidibcocooaaGreatDoor

namespace Go.Proofs.YtlhaidibcocooaaGreatDoor

section
variable {α : Type}
/-- blocks of a size; the last one may be shorter -/
def FullB (bs : Nat) : List (List (Nat × α)) → Prop
  | [] => True
  | [X] => 0 < X.length ∧ X.length ≤ bs
  | X :: Y :: r => X.length = bs ∧ FullB bs (Y :: r)
theorem FullB.tail {bs : Nat} {X : List (Nat × α)} {r : List (List (Nat × α))} (h : FullB bs (X :: r)) : FullB bs r := by
  cases r with
  | nil => trivial
  | cons Y r => exact h.2
theorem FullB.pos {bs : Nat} (hb : 0 < bs) {X : List (Nat × α)} {r : List (List (Nat × α))} (h : FullB bs (X :: r)) : 0 < X.length ∧ X.length ≤ bs := by
  cases r with
  | nil => exact h
  | cons Y r => have := h.1; omega
theorem FullB.app {bs : Nat} : ∀ {D : List (List (Nat × α))} {T : List (List (Nat × α))}, (∀ X ∈ D, X.length = bs) → 0 < bs → FullB bs T → FullB bs (D ++ T)
  | [], _, _, _, h => h
  | [X], T, hD, hb, h => by
    cases T with
    | nil => have := hD X (by simp); exact ⟨by omega, by omega⟩
    | cons Y r => exact ⟨hD X (by simp), h⟩
  | X :: Y :: D, T, hD, hb, h => ⟨hD X (by simp), FullB.app (D := Y :: D) (fun Z hZ => hD Z (by simp at hZ ⊢; exact .inr hZ)) hb h⟩
variable (key : α → Int)
/-- blocks each of which is in order, their tags rising from block to block -/
def GoodB (B : List (List (Nat × α))) : Prop := (∀ X ∈ B, Srt key X) ∧ B.Pairwise Tags
variable {key}
theorem GoodB.merge {D r : List (List (Nat × α))} {X Y Z : List (Nat × α)} (h : GoodB key (D ++ X :: Y :: r)) (hp : Z.Perm (X ++ Y)) (hs : Srt key Z) : GoodB key (D ++ Z :: r) := by
  obtain ⟨h1, h2⟩ := h
  obtain ⟨a1, a2, a3⟩ := List.pairwise_append.1 h2
  obtain ⟨b1, b2⟩ := List.pairwise_cons.1 a2
  obtain ⟨c1, c2⟩ := List.pairwise_cons.1 b2
  refine ⟨fun W hW => ?_, List.pairwise_append.2 ⟨a1, List.pairwise_cons.2 ⟨fun W hW => ?_, c2⟩, fun U hU W hW => ?_⟩⟩
  · rcases List.mem_append.1 hW with hW | hW
    · exact h1 W (List.mem_append_left _ hW)
    · rcases List.mem_cons.1 hW with rfl | hW
      · exact hs
      · exact h1 W (by simp [hW])
  · intro x hx y hy
    rcases List.mem_append.1 (hp.mem_iff.1 hx) with hx | hx
    · exact b1 W (by simp [hW]) x hx y hy
    · exact c1 W hW x hx y hy
  · rcases List.mem_cons.1 hW with rfl | hW
    · intro x hx y hy
      rcases List.mem_append.1 (hp.mem_iff.1 hy) with hy | hy
      · exact a3 U hU X (by simp) x hx y hy
      · exact a3 U hU Y (by simp) x hx y hy
    · exact a3 U hU W (by simp [hW])
theorem GoodB.two {D r : List (List (Nat × α))} {X Y : List (Nat × α)} (h : GoodB key (D ++ X :: Y :: r)) : Srt key X ∧ Srt key Y ∧ Tags X Y :=
  ⟨h.1 X (by simp), h.1 Y (by simp), (List.pairwise_cons.1 (List.pairwise_append.1 h.2).2.1).1 Y (by simp)⟩
/-- blocks in order, one block at most: all is in order -/
theorem FullB.done {bs : Nat} {B : List (List (Nat × α))} (hb : 0 < bs) (h : FullB bs B) (hg : GoodB key B) (hn : B.flatten.length ≤ bs) : Srt key B.flatten := by
  match B, h, hg, hn with
  | [], _, _, _ => exact List.Pairwise.nil
  | [X], _, hg, _ => simpa using hg.1 X (by simp)
  | X :: Y :: r, h, _, hn =>
    have h1 := h.1
    have h2 := (FullB.pos hb h.2).1
    simp at hn
    omega
/-- one block more, behind those in order -/
theorem GoodB.snoc {D : List (List (Nat × α))} {Z : List (Nat × α)} (h : GoodB key D) (hs : Srt key Z) (ht : Tags D.flatten Z) : GoodB key (D ++ [Z]) := by
  refine ⟨fun W hW => ?_, List.pairwise_append.2 ⟨h.2, List.pairwise_singleton _ _, fun U hU W hW => ?_⟩⟩
  · rcases List.mem_append.1 hW with hW | hW
    · exact h.1 W hW
    · rw [List.mem_singleton.1 hW]; exact hs
  · rw [List.mem_singleton.1 hW]
    exact fun x hx y hy => ht x (List.mem_flatten.2 ⟨U, hU, hx⟩) y hy
/-- tags that rise -/
def Rise (l : List (Nat × α)) : Prop := l.Pairwise fun x y => x.1 < y.1
theorem Rise.cut {l m : List (Nat × α)} (h : Rise (l ++ m)) : Rise l ∧ Rise m ∧ Tags l m := List.pairwise_append.1 h
theorem flat_snoc (D : List (List (Nat × α))) (Z : List (Nat × α)) : (D ++ [Z]).flatten = D.flatten ++ Z := by simp
theorem flat_len {b : Nat} : ∀ {D : List (List (Nat × α))}, (∀ X ∈ D, X.length = b) → D.flatten.length = D.length * b
  | [], _ => by simp
  | X :: D, h => by
    rw [List.flatten_cons, List.length_append, h X (by simp), flat_len (fun Y hY => h Y (by simp [hY])), List.length_cons, Nat.add_mul]
    omega
end
end Go.Proofs.YtlhaidibcocooaaGreatDoor

namespace Go.Proofs.YtlhaidibcocooaaGreatDoor

section
variable {α : Type} {key : α → Int}
/-- where symMerge's search stops: all ahead of the middle come ahead of all behind it -/
theorem sym_cut {X Y : List (Nat × α)} (hX : Srt key X) (hY : Srt key Y) (ht : Tags X Y) {s h : Nat} (hs : s ≤ X.length) (hh : s ≤ h) (hv : h - s ≤ Y.length)
    (h1 : ∀ q : 0 < s ∧ s - 1 < X.length ∧ h - s < Y.length, ¬ key (Y[h - s]'q.2.2).2 < key (X[s - 1]'q.2.1).2)
    (h2 : ∀ q : s < X.length ∧ s < h ∧ h - 1 - s < Y.length, key (Y[h - 1 - s]'q.2.2).2 < key (X[s]'q.1).2) :
    ∀ x ∈ X.take s ++ Y.take (h - s), ∀ y ∈ X.drop s ++ Y.drop (h - s), Ahead key x y := by
  refine cut_ahead hX hY hs hv (fun a b => ?_) (fun a b => ?_)
  · exact ahead_of_not (ht _ (List.getElem_mem _) _ (List.getElem_mem _)) (h1 ⟨a, by omega, b⟩)
  · have e : h - s - 1 = h - 1 - s := by omega
    have := h2 ⟨a, by omega, by omega⟩
    refine ahead_of_less ?_
    simp only [e]
    exact this
/-- a part of which one side is empty is in order as it is -/
theorem part_done {A B : List (Nat × α)} (hA : Srt key A) (hB : Srt key B) (h : A = [] ∨ B = []) : Srt key (A ++ B) := by
  rcases h with rfl | rfl
  · simpa using hB
  · simpa using hA
/-- the rotation of symMerge; where one of the two ranges is empty it is not called -/
theorem no_turn {A B : List (Nat × α)} (h : A = [] ∨ B = []) (P S : List (Nat × α)) : P ++ A ++ B ++ S = P ++ B ++ A ++ S := by
  rcases h with rfl | rfl <;> simp
/-- at the end of symMerge's search: both lists are cut, and what is merged of the parts is merged of the whole -/
theorem search_end {X Y : List (Nat × α)} (hX : Srt key X) (hY : Srt key Y) (ht : Tags X Y) {u v k s s0 r0 : Nat} (hu : X.length = u) (hv : Y.length = v) (hsr : (s0 = 0 ∨ k = v + s0) ∧ (r0 = k ∨ r0 = u) ∧ s0 ≤ r0 ∧ r0 ≤ k ∧ r0 ≤ u ∧ k ≤ v + s0) (hs : s0 ≤ s ∧ s ≤ r0)
    (HL : ∀ q : s0 < s ∧ s - 1 < X.length ∧ k - s < Y.length, ¬ key (Y[k - s]'q.2.2).2 < key (X[s - 1]'q.2.1).2)
    (HR : ∀ q : s < r0 ∧ s < X.length ∧ k - 1 - s < Y.length, key (Y[k - 1 - s]'q.2.2).2 < key (X[s]'q.2.1).2) :
    ∃ X1 X2 Y1 Y2, X = X1 ++ X2 ∧ Y = Y1 ++ Y2 ∧ X1.length = s ∧ X1.length + Y1.length = k ∧ (Srt key X1 ∧ Srt key Y1 ∧ Tags X1 Y1) ∧ (Srt key X2 ∧ Srt key Y2 ∧ Tags X2 Y2) ∧
      (∀ Z1 Z2 : List (Nat × α), Z1.Perm (X1 ++ Y1) → Srt key Z1 → Z2.Perm (X2 ++ Y2) → Srt key Z2 → (Z1 ++ Z2).Perm (X ++ Y) ∧ Srt key (Z1 ++ Z2)) := by
  have hc := sym_cut hX hY ht (s := s) (h := k) (by omega) (by omega) (by omega) (fun q => HL ⟨by omega, q.2⟩) (fun q => HR ⟨by omega, q.1, q.2.2⟩)
  refine ⟨X.take s, X.drop s, Y.take (k - s), Y.drop (k - s), (List.take_append_drop _ _).symm, (List.take_append_drop _ _).symm, by simp; omega, by simp; omega, ⟨hX.sublist (List.take_sublist _ _), hY.sublist (List.take_sublist _ _), ht.sub (fun _ h => List.mem_of_mem_take h) (fun _ h => List.mem_of_mem_take h)⟩, ⟨hX.sublist (List.drop_sublist _ _), hY.sublist (List.drop_sublist _ _), ht.sub (fun _ h => List.mem_of_mem_drop h) (fun _ h => List.mem_of_mem_drop h)⟩, fun Z1 Z2 p1 s1 p2 s2 => merged hc p1 s1 p2 s2⟩
end
end Go.Proofs.YtlhaidibcocooaaGreatDoor

namespace Go.Proofs.YtlhaidibcocooaaGreatDoor

section
variable {α : Type} {key : α → Int}
/-- so many blocks of a list are in order, the rest is as it was -/
structure FirstS (key : α → Int) (L : List (Nat × α)) (bs : Nat) (D : List (List (Nat × α))) : Prop where
  full : ∀ X ∈ D, X.length = bs
  good : GoodB key D
  perm : D.flatten.Perm (L.take D.flatten.length)
theorem FirstS.nil (key : α → Int) (L : List (Nat × α)) (bs : Nat) : FirstS key L bs [] := ⟨(fun _ h => by cases h), ⟨(fun _ h => by cases h), List.Pairwise.nil⟩, by simp⟩
theorem FirstS.good_snoc {L : List (Nat × α)} {bs : Nat} {D : List (List (Nat × α))} (h : FirstS key L bs D) (hr : Rise L) {M Z : List (Nat × α)} (hM : ∀ x ∈ M, x ∈ L.drop D.flatten.length) (hZ : Z.Perm M) (hs : Srt key Z) : GoodB key (D ++ [Z]) := by
  refine h.good.snoc hs ?_
  have hr' : Rise (L.take D.flatten.length ++ L.drop D.flatten.length) := by rw [List.take_append_drop]; exact hr
  exact (Rise.cut hr').2.2.sub (fun x hx => h.perm.mem_iff.1 hx) (fun x hx => hM x (hZ.mem_iff.1 hx))
theorem FirstS.step {L : List (Nat × α)} {bs : Nat} {D : List (List (Nat × α))} (h : FirstS key L bs D) (hr : Rise L) {Z : List (Nat × α)} (hb : D.flatten.length + bs ≤ L.length) (hZ : Z.Perm ((L.drop D.flatten.length).take bs)) (hs : Srt key Z) : FirstS key L bs (D ++ [Z]) := by
  have hl : Z.length = bs := by
    rw [hZ.length_eq, List.length_take, List.length_drop]
    omega
  refine ⟨fun X hX => ?_, h.good_snoc hr (fun x hx => List.mem_of_mem_take hx) hZ hs, ?_⟩
  · rcases List.mem_append.1 hX with hX | hX
    · exact h.full X hX
    · rw [List.mem_singleton.1 hX]; exact hl
  · rw [flat_snoc, List.length_append, hl, List.take_add]
    exact h.perm.append hZ
/-- a list that rises: a part of it rises -/
theorem Rise.part {L : List (Nat × α)} (h : Rise L) (a b : Nat) : Rise ((L.drop a).take b) := h.sublist ((List.take_sublist _ _).trans (List.drop_sublist _ _))
/-- a pass of merges: blocks of twice the size, then blocks that are not merged yet -/
structure PassS (key : α → Int) (L : List (Nat × α)) (bs : Nat) (D T : List (List (Nat × α))) : Prop where
  full : ∀ X ∈ D, X.length = 2 * bs
  rest : FullB bs T
  good : GoodB key (D ++ T)
  perm : (D ++ T).flatten.Perm L
theorem FirstS.last {L : List (Nat × α)} {bs : Nat} {D : List (List (Nat × α))} (h : FirstS key L bs D) (hr : Rise L) (hb : 0 < bs) {Z : List (Nat × α)} (h1 : L.length - D.flatten.length < bs) (hZ : Z.Perm (L.drop D.flatten.length)) (hs : Srt key Z) (hz : 0 < Z.length) : PassS key L bs [] (D ++ [Z]) := by
  have hl := hZ.length_eq
  rw [List.length_drop] at hl
  refine ⟨(fun _ h => by cases h), FullB.app h.full hb ⟨hz, by omega⟩, h.good_snoc hr (fun x hx => hx) hZ hs, ?_⟩
  rw [List.nil_append, flat_snoc]
  have := h.perm.append hZ
  rwa [List.take_append_drop] at this
theorem FirstS.none {L : List (Nat × α)} {bs : Nat} {D : List (List (Nat × α))} (h : FirstS key L bs D) (hb : 0 < bs) (hd : D.flatten.length = L.length) : PassS key L bs [] D := by
  refine ⟨(fun _ h => by cases h), ?_, h.good, ?_⟩
  · have := FullB.app (T := []) h.full hb trivial
    rwa [List.append_nil] at this
  · have := h.perm
    rwa [hd, List.take_length] at this
theorem two_of {bs : Nat} (_hb : 0 < bs) {T : List (List (Nat × α))} (h : FullB bs T) (hl : 2 * bs ≤ T.flatten.length) : ∃ X Y r, T = X :: Y :: r ∧ X.length = bs ∧ Y.length = bs ∧ FullB bs r := by
  match T, h with
  | [], _ => simp at hl; omega
  | [X], h => have := h.2; simp at hl; omega
  | [X, Y], h =>
    have h1 := h.1
    have h2 := h.2.2
    simp at hl
    exact ⟨X, Y, [], rfl, h1, by omega, trivial⟩
  | X :: Y :: Z :: r, h => exact ⟨X, Y, Z :: r, rfl, h.1, h.2.1, h.2.2⟩
theorem last_of {bs : Nat} (_hb : 0 < bs) {T : List (List (Nat × α))} (h : FullB bs T) (hl : T.flatten.length < 2 * bs) (hm : bs < T.flatten.length) : ∃ X Y, T = [X, Y] ∧ X.length = bs ∧ 0 < Y.length ∧ Y.length ≤ bs := by
  match T, h with
  | [], _ => simp at hm
  | [X], h => have := h.2; simp at hm; omega
  | [X, Y], h => exact ⟨X, Y, rfl, h.1, h.2.1, h.2.2⟩
  | X :: Y :: Z :: r, h =>
    have h1 := h.1
    have h2 := h.2.1
    simp at hl
    omega
theorem small_of {bs : Nat} (hb : 0 < bs) {T : List (List (Nat × α))} (h : FullB bs T) (hl : T.flatten.length ≤ bs) : FullB (2 * bs) T := by
  match T, h with
  | [], _ => trivial
  | [X], h => exact ⟨h.1, by have := h.2; omega⟩
  | X :: Y :: r, h =>
    have h1 := h.1
    have h2 := (FullB.pos hb h.2).1
    simp at hl
    omega
/-- a round of the pass -/
theorem PassS.step {L : List (Nat × α)} {bs : Nat} {D r : List (List (Nat × α))} {X Y Z : List (Nat × α)} (h : PassS key L bs D (X :: Y :: r)) (hX : X.length = bs) (hY : Y.length = bs) (hr : FullB bs r) (hp : Z.Perm (X ++ Y)) (hs : Srt key Z) : PassS key L bs (D ++ [Z]) r := by
  refine ⟨fun W hW => ?_, hr, ?_, ?_⟩
  · rcases List.mem_append.1 hW with hW | hW
    · exact h.full W hW
    · rw [List.mem_singleton.1 hW, hp.length_eq, List.length_append]; omega
  · have := h.good.merge hp hs
    simpa using this
  · refine List.Perm.trans ?_ h.perm
    simp only [List.append_assoc, List.flatten_append, List.flatten_cons, List.flatten_nil, List.nil_append]
    refine List.Perm.append_left _ ?_
    rw [← List.append_assoc X]
    exact hp.append_right _
/-- the pass's end: the last block is merged with the one ahead of it -/
theorem PassS.endTwo {L : List (Nat × α)} {bs : Nat} {D : List (List (Nat × α))} {X Y Z : List (Nat × α)} (h : PassS key L bs D [X, Y]) (hb : 0 < bs) (hX : X.length = bs) (hY : 0 < Y.length ∧ Y.length ≤ bs) (hp : Z.Perm (X ++ Y)) (hs : Srt key Z) : PassS key L (2 * bs) [] (D ++ [Z]) := by
  refine ⟨(fun _ h => by cases h), FullB.app h.full (by omega) ⟨?_, ?_⟩, h.good.merge hp hs, ?_⟩
  · rw [hp.length_eq, List.length_append]; omega
  · rw [hp.length_eq, List.length_append]; omega
  · refine List.Perm.trans ?_ h.perm
    simp only [List.flatten_append, List.flatten_cons, List.flatten_nil, List.nil_append, List.append_nil]
    exact List.Perm.append_left _ hp
/-- the pass's end: nothing is left to merge -/
theorem PassS.endOne {L : List (Nat × α)} {bs : Nat} {D T : List (List (Nat × α))} (h : PassS key L bs D T) (hb : 0 < bs) (hl : T.flatten.length ≤ bs) : PassS key L (2 * bs) [] (D ++ T) :=
  ⟨(fun _ h => by cases h), FullB.app h.full (by omega) (small_of hb h.rest hl), h.good, h.perm⟩
theorem PassS.done {L : List (Nat × α)} {bs : Nat} {T : List (List (Nat × α))} (h : PassS key L bs [] T) (hb : 0 < bs) (hl : L.length ≤ bs) : Srt key T.flatten := by
  have hp := h.perm.length_eq
  rw [List.nil_append] at hp
  exact FullB.done hb h.rest h.good (by omega)
theorem PassS.lens {L : List (Nat × α)} {bs : Nat} {D T : List (List (Nat × α))} (h : PassS key L bs D T) : D.flatten.length + T.flatten.length = L.length := by
  have := h.perm.length_eq
  rwa [List.flatten_append, List.length_append] at this
end
end Go.Proofs.YtlhaidibcocooaaGreatDoor

namespace Go.Proofs.YtlhaidibcocooaaGreatDoor
open Go.RowKit

abbrev EV := Int × Int
abbrev k0 (v : EV) : Value := .int .i64 v.1
abbrev k1 (v : EV) : Value := .int .i64 v.2
/-- the cells of elements -/
def flE (L : List (Nat × EV)) : List Value := L.flatMap fun p => [k0 p.2, k1 p.2]
theorem flE_len (L : List (Nat × EV)) : (flE L).length = L.length * 2 := by
  induction L with
  | nil => rfl
  | cons x L ih => rw [flE, List.flatMap_cons, List.length_append, ← flE, ih]; simp only [List.length_cons, List.length_nil]; omega
theorem flE_at : ∀ (L : List (Nat × EV)) (i : Nat) (h : i < L.length), (flE L)[i * 2]? = some (k0 L[i].2) ∧ (flE L)[i * 2 + 1]? = some (k1 L[i].2)
  | x :: L, 0, _ => ⟨rfl, rfl⟩
  | x :: L, i + 1, h => by
    have := flE_at L i (by simpa using h)
    rw [show (i + 1) * 2 = i * 2 + 2 by omega]
    exact this
theorem flE_set : ∀ (L : List (Nat × EV)) (i : Nat) (t : Nat) (v : EV), (((flE L).set (i * 2) (k0 v)).set (i * 2 + 1) (k1 v)) = flE (L.set i (t, v))
  | [], _, _, _ => rfl
  | x :: L, 0, _, _ => rfl
  | x :: L, i + 1, t, v => by
    rw [show (i + 1) * 2 = i * 2 + 2 by omega]
    show k0 x.2 :: k1 x.2 :: (((flE L).set (i * 2) (k0 v)).set (i * 2 + 1) (k1 v)) = k0 x.2 :: k1 x.2 :: flE (L.set i (t, v))
    rw [flE_set L i t v]
/-- the row that is sorted -/
structure Dat (T : TypeId) (w : World) (g n cap : Nat) (L : List (Nat × EV)) : Prop where
  own : w.ownsRow g T 2 (.slice (some ⟨g, 0, none⟩) n cap) n (flE L)
  len : L.length = n
def putE (w : World) (g i : Nat) (v : EV) : World := ((w.setCell ⟨g, i * 2, none⟩ (k0 v)).setCell ⟨g, i * 2 + 1, none⟩ (k1 v))
theorem Dat.put {T : TypeId} {w : World} {g n cap : Nat} {L : List (Nat × EV)} (h : Dat T w g n cap L) (i t : Nat) (v : EV) : Dat T (putE w g i v) g n cap (L.set i (t, v)) := by
  have h0 := (h.own.stored (i * 2) (k0 v)).1
  have h1 := (h0.stored (i * 2 + 1) (k1 v)).1
  rw [flE_set L i t v] at h1
  exact ⟨h1, by rw [List.length_set]; exact h.len⟩
theorem putE_only (w : World) (g i : Nat) (v : EV) : Only g w (putE w g i v) := ((Only.refl g w).setCell _).setCell _
theorem Dat.cells {T : TypeId} {w : World} {g n cap : Nat} {L : List (Nat × EV)} (h : Dat T w g n cap L) (i : Nat) (hi : i < L.length) :
    w.cell? ⟨g, i * 2, none⟩ = some (k0 L[i].2) ∧ w.cell? ⟨g, i * 2 + 1, none⟩ = some (k1 L[i].2) := by
  have hl := h.len
  have hf := flE_at L i hi
  exact ⟨(h.own.cellAt (i * 2) (by omega)).trans hf.1, (h.own.cellAt (i * 2 + 1) (by omega)).trans hf.2⟩
theorem Dat.fz {T : TypeId} {w : World} {g n cap : Nat} {L : List (Nat × EV)} (h : Dat T w g n cap L) (j : Nat) : w.frozen? ⟨g, j, none⟩ = false := h.own.frozenAt j
theorem Dat.below {T : TypeId} {w w' : World} {g n cap : Nat} {L : List (Nat × EV)} (h : Dat T w g n cap L) (hb : Below w.heap.size w w') : Dat T w' g n cap L := by
  refine ⟨⟨h.own.1, ?_⟩, h.len⟩
  rcases h.own.2 with h0 | ⟨g', cap', cur, hv, hb', hg, h3⟩
  · exact .inl h0
  · exact .inr ⟨g', cap', cur, hv, hb', (hb.block g' (Array.getElem?_eq_some_iff.1 hg).1).trans hg, h3⟩
theorem Dat.drew {T : TypeId} {w : World} {g n cap : Nat} {L : List (Nat × EV)} (h : Dat T w g n cap L) : Dat T w.drew g n cap L := ⟨h.own, h.len⟩
/-- two elements are exchanged -/
theorem swapped {A M B : List (Nat × EV)} {u v : Nat × EV} {i j : Nat} (hi : i = A.length) (hj : j = A.length + 1 + M.length) :
    ((A ++ u :: (M ++ v :: B)).set i v).set j u = A ++ v :: (M ++ u :: B) := by
  subst hi hj
  rw [List.set_append_right _ _ (Nat.le_refl _), Nat.sub_self, List.set_cons_zero, List.set_append_right _ _ (by omega),
    show A.length + 1 + M.length - A.length = M.length + 1 by omega, List.set_cons_succ, List.set_append_right _ _ (Nat.le_refl _), Nat.sub_self, List.set_cons_zero]
theorem Dat.swap {T : TypeId} {w : World} {g n cap : Nat} {A M B : List (Nat × EV)} {u v : Nat × EV} (h : Dat T w g n cap (A ++ u :: (M ++ v :: B))) {i j : Nat} (hi : i = A.length) (hj : j = A.length + 1 + M.length) :
    Dat T (putE (putE w g i v.2) g j u.2) g n cap (A ++ v :: (M ++ u :: B)) := by
  have h1 := (h.put i v.1 v.2).put j u.1 u.2
  rwa [swapped hi hj] at h1
/-- what lies at a place -/
theorem Dat.at {T : TypeId} {w : World} {g n cap : Nat} {A B : List (Nat × EV)} {u : Nat × EV} (h : Dat T w g n cap (A ++ u :: B)) {i : Nat} (hi : i = A.length) :
    i < n ∧ w.cell? ⟨g, i * 2, none⟩ = some (k0 u.2) ∧ w.cell? ⟨g, i * 2 + 1, none⟩ = some (k1 u.2) := by
  subst hi
  have hl := h.len
  have hlt : A.length < (A ++ u :: B).length := by simp
  have hc := h.cells A.length hlt
  have he : (A ++ u :: B)[A.length] = u := by simp
  rw [he] at hc
  exact ⟨by omega, hc⟩
end Go.Proofs.YtlhaidibcocooaaGreatDoor

namespace Go.Proofs.YtlhaidibcocooaaGreatDoor

/-- a minute and a line come ahead of others -/
def Lx (x y : Int × Int) : Prop := x.1 < y.1 ∨ (x.1 = y.1 ∧ x.2 < y.2)
def SLx (l : List (Int × Int)) : Prop := l.Pairwise Lx
theorem slx_eq : ∀ {l m : List (Int × Int)}, SLx l → SLx m → (∀ p, p ∈ l ↔ p ∈ m) → l = m
  | [], [], _, _, _ => rfl
  | [], y :: m, _, _, h => absurd ((h y).2 List.mem_cons_self) (by simp)
  | x :: l, [], _, _, h => absurd ((h x).1 List.mem_cons_self) (by simp)
  | x :: l, y :: m, hl, hm, h => by
    obtain ⟨h1, h2⟩ := List.pairwise_cons.1 hl
    obtain ⟨h3, h4⟩ := List.pairwise_cons.1 hm
    have irr : ∀ z : Int × Int, ¬ Lx z z := fun z hz => by unfold Lx at hz; omega
    have hxy : x = y := by
      rcases List.mem_cons.1 ((h x).1 List.mem_cons_self) with e | hx
      · exact e
      · rcases List.mem_cons.1 ((h y).2 List.mem_cons_self) with e | hy
        · exact e.symm
        · have a := h1 y hy
          have b := h3 x hx
          unfold Lx at a b
          omega
    subst hxy
    rw [slx_eq h2 h4 (fun p => ?_)]
    constructor
    · intro hp
      rcases List.mem_cons.1 ((h p).1 (List.mem_cons_of_mem _ hp)) with e | hq
      · subst e; exact absurd (h1 p hp) (irr p)
      · exact hq
    · intro hp
      rcases List.mem_cons.1 ((h p).2 (List.mem_cons_of_mem _ hp)) with e | hq
      · subst e; exact absurd (h3 p hp) (irr p)
      · exact hq
/-- a minute of the stretch at which a line fits -/
def InF (F : Nat → Int → Bool) (k : Nat) (a b : Int) (p : Int × Int) : Prop := a ≤ p.1 ∧ p.1 < b ∧ ∃ i : Nat, i < k ∧ p.2 = (i : Int) ∧ F i p.1 = true
structure IsF (F : Nat → Int → Bool) (k : Nat) (a b : Int) (l : List (Int × Int)) : Prop where
  srt : SLx l
  mem : ∀ p, p ∈ l ↔ InF F k a b p
theorem IsF.unique {F : Nat → Int → Bool} {k : Nat} {a b : Int} {l m : List (Int × Int)} (h : IsF F k a b l) (g : IsF F k a b m) : l = m :=
  slx_eq h.srt g.srt fun p => (h.mem p).trans (g.mem p).symm
theorem IsF.app {F : Nat → Int → Bool} {k : Nat} {a b c : Int} {l m : List (Int × Int)} (h : IsF F k a c l) (g : IsF F k c b m) (h1 : a ≤ c) (h2 : c ≤ b) : IsF F k a b (l ++ m) := by
  refine ⟨List.pairwise_append.2 ⟨h.srt, g.srt, fun x hx y hy => .inl ?_⟩, fun p => ?_⟩
  · have a1 := (h.mem x).1 hx
    have a2 := (g.mem y).1 hy
    have := a1.2.1
    have := a2.1
    omega
  · rw [List.mem_append, h.mem, g.mem]
    unfold InF
    constructor
    · rintro (⟨x1, x2, x3⟩ | ⟨x1, x2, x3⟩)
      · exact ⟨x1, by omega, x3⟩
      · exact ⟨by omega, x2, x3⟩
    · rintro ⟨x1, x2, x3⟩
      by_cases hc : p.1 < c
      · exact .inl ⟨x1, hc, x3⟩
      · exact .inr ⟨by omega, x2, x3⟩
theorem nodup_le : ∀ {l m : List (Int × Int)}, l.Nodup → (∀ p ∈ l, p ∈ m) → l.length ≤ m.length
  | [], _, _, _ => by simp
  | x :: l, m, hl, h => by
    obtain ⟨h1, h2⟩ := List.nodup_cons.1 hl
    have hx := h x List.mem_cons_self
    have := nodup_le (l := l) (m := m.erase x) h2 fun p hp => (List.mem_erase_of_ne (fun e : p = x => h1 (by rw [← e]; exact hp))).2 (h p (List.mem_cons_of_mem _ hp))
    rw [List.length_erase_of_mem hx] at this
    have hm : 0 < m.length := List.length_pos_of_mem hx
    simp only [List.length_cons]
    omega
theorem SLx.nodup {l : List (Int × Int)} (h : SLx l) : l.Nodup := List.Pairwise.imp (fun {a b} hab e => by subst e; unfold Lx at hab; omega) h
/-- too many: a list without doubles of minutes that fit, longer than n -/
def Many (F : Nat → Int → Bool) (k : Nat) (a b : Int) (n : Nat) : Prop := ∃ O : List (Int × Int), O.Nodup ∧ (∀ p ∈ O, InF F k a b p) ∧ n < O.length
theorem Many.no {F : Nat → Int → Bool} {k n : Nat} {a b : Int} {l : List (Int × Int)} (h : Many F k a b n) (g : IsF F k a b l) (hn : l.length ≤ n) : False := by
  obtain ⟨O, h1, h2, h3⟩ := h
  have := nodup_le h1 fun p hp => (g.mem p).2 (h2 p hp)
  omega
theorem Many.wide {F : Nat → Int → Bool} {k n : Nat} {a b a' b' : Int} (h : Many F k a b n) (h1 : a' ≤ a) (h2 : b ≤ b') : Many F k a' b' n := by
  obtain ⟨O, g1, g2, g3⟩ := h
  refine ⟨O, g1, fun p hp => ?_, g3⟩
  obtain ⟨x1, x2, x3⟩ := g2 p hp
  exact ⟨by omega, by omega, x3⟩
/-- what Fires tells: too many, or the list -/
def FRes (F : Nat → Int → Bool) (k : Nat) (a b : Int) : Option (List (Int × Int)) → Prop
  | none => Many F k a b 10000
  | some l => IsF F k a b l ∧ l.length ≤ 10000
theorem FRes.unique {F : Nat → Int → Bool} {k : Nat} {a b : Int} {r s : Option (List (Int × Int))} (h : FRes F k a b r) (g : FRes F k a b s) : r = s := by
  cases r <;> cases s
  · rfl
  · exact (Many.no h g.1 g.2).elim
  · exact (Many.no g h.1 h.2).elim
  · rw [h.1.unique g.1]
theorem FRes.parts {F : Nat → Int → Bool} {k : Nat} {a b c : Int} {l : List (Int × Int)} {r s : Option (List (Int × Int))} (h1 : a ≤ c) (h2 : c ≤ b) (h : FRes F k a b (some l)) (hr : FRes F k a c r) (hs : FRes F k c b s) : ∃ x y, r = some x ∧ s = some y ∧ x ++ y = l := by
  cases r with
  | none => exact ((Many.wide hr (Int.le_refl a) h2).no h.1 h.2).elim
  | some x =>
    cases s with
    | none => exact ((Many.wide hs h1 (Int.le_refl b)).no h.1 h.2).elim
    | some y => exact ⟨x, y, rfl, rfl, (hr.1.app hs.1 h1 h2).unique h.1⟩

/-! The program's list: line after line. -/
/-- line, then minute -/
def Ox (x y : Int × Int) : Prop := x.2 < y.2 ∨ (x.2 = y.2 ∧ x.1 < y.1)
/-- the lines below i in all, of line i the minutes below c -/
structure LinS (F : Nat → Int → Bool) (a b : Int) (i : Nat) (c : Int) (O : List (Int × Int)) : Prop where
  srt : O.Pairwise Ox
  mem : ∀ p, p ∈ O ↔ (InF F i a b p ∨ (p.2 = (i : Int) ∧ a ≤ p.1 ∧ p.1 < c ∧ F i p.1 = true))
theorem LinS.start (F : Nat → Int → Bool) (a b : Int) : LinS F a b 0 a [] := by
  refine ⟨List.Pairwise.nil, fun p => ⟨fun h => (by cases h), ?_⟩⟩
  rintro (⟨_, _, j, hj, _⟩ | ⟨_, h1, h2, _⟩)
  · omega
  · omega
theorem LinS.take {F : Nat → Int → Bool} {a b c m : Int} {i : Nat} {O : List (Int × Int)} (h : LinS F a b i c O) (h1 : a ≤ c) (h2 : c ≤ m) (hm : F i m = true) (hn : ∀ j, c ≤ j → j < m → F i j = false) : LinS F a b i (m + 1) (O ++ [(m, (i : Int))]) := by
  refine ⟨List.pairwise_append.2 ⟨h.srt, List.pairwise_singleton _ _, fun x hx y hy => ?_⟩, fun p => ?_⟩
  · rw [List.mem_singleton.1 hy]
    unfold Ox
    rcases (h.mem x).1 hx with ⟨_, _, j, hj, hxj, _⟩ | ⟨hx2, _, hx3, _⟩
    · left; show x.2 < (i : Int); omega
    · right; exact ⟨hx2, by show x.1 < m; omega⟩
  · rw [List.mem_append, h.mem, List.mem_singleton]
    constructor
    · rintro ((hp | ⟨p1, p2, p3, p4⟩) | hp)
      · exact .inl hp
      · exact .inr ⟨p1, p2, by omega, p4⟩
      · subst hp; exact .inr ⟨rfl, by show a ≤ m; omega, by show m < m + 1; omega, hm⟩
    · rintro (hp | ⟨p1, p2, p3, p4⟩)
      · exact .inl (.inl hp)
      · by_cases hc : p.1 < c
        · exact .inl (.inr ⟨p1, p2, hc, p4⟩)
        · by_cases hpm : p.1 < m
          · have := hn p.1 (by omega) hpm
            rw [p4] at this
            cases this
          · right
            refine Prod.ext ?_ p1
            show p.1 = m
            omega
theorem LinS.next {F : Nat → Int → Bool} {a b c : Int} {i : Nat} {O : List (Int × Int)} (h : LinS F a b i c O) (hcb : c ≤ b) (hn : ∀ j, c ≤ j → j < b → F i j = false) : LinS F a b (i + 1) a O := by
  refine ⟨h.srt, fun p => ?_⟩
  rw [h.mem]
  constructor
  · rintro (⟨p1, p2, j, hj, p3⟩ | ⟨p1, p2, p3, p4⟩)
    · exact .inl ⟨p1, p2, j, by omega, p3⟩
    · exact .inl ⟨p2, by omega, i, by omega, p1, p4⟩
  · rintro (⟨p1, p2, j, hj, p3, p4⟩ | ⟨_, p2, p3, _⟩)
    · by_cases hji : j < i
      · exact .inl ⟨p1, p2, j, hji, p3, p4⟩
      · have : j = i := by omega
        subst this
        by_cases hc : p.1 < c
        · exact .inr ⟨p3, p1, hc, p4⟩
        · have := hn p.1 (by omega) p2
          rw [p4] at this
          cases this
    · omega
theorem ox_nodup {l : List (Int × Int)} (h : l.Pairwise Ox) : l.Nodup := List.Pairwise.imp (fun {a b} hab e => by subst e; unfold Ox at hab; omega) h
theorem LinS.many {F : Nat → Int → Bool} {a b c : Int} {i k n : Nat} {O : List (Int × Int)} (h : LinS F a b i c O) (hi : i < k) (hc : c ≤ b) (hn : n < O.length) : Many F k a b n := by
  refine ⟨O, ox_nodup h.srt, fun p hp => ?_, hn⟩
  rcases (h.mem p).1 hp with ⟨p1, p2, j, hj, p3⟩ | ⟨p1, p2, p3, p4⟩
  · exact ⟨p1, p2, j, by omega, p3⟩
  · exact ⟨p2, by omega, i, hi, p1, p4⟩
/-- the places of a list as tags -/
def tagL : Nat → List (Int × Int) → List (Nat × Int × Int)
  | _, [] => []
  | t, x :: l => (t, x) :: tagL (t + 1) l
theorem tagL_snd : ∀ (t : Nat) (l : List (Int × Int)), (tagL t l).map (·.2) = l
  | _, [] => rfl
  | t, x :: l => by rw [tagL, List.map_cons, tagL_snd]
theorem tagL_ge : ∀ (t : Nat) (l : List (Int × Int)), ∀ p ∈ tagL t l, t ≤ p.1 ∧ p.2 ∈ l
  | _, [], p, h => by cases h
  | t, x :: l, p, h => by
    rcases List.mem_cons.1 h with e | h
    · subst e; exact ⟨Nat.le_refl _, List.mem_cons_self⟩
    · have := tagL_ge (t + 1) l p h
      exact ⟨by omega, List.mem_cons_of_mem _ this.2⟩
theorem tagL_rise : ∀ (t : Nat) (l : List (Int × Int)), Rise (tagL t l)
  | _, [] => List.Pairwise.nil
  | t, x :: l => List.pairwise_cons.2 ⟨fun p hp => by have := (tagL_ge (t + 1) l p hp).1; show t < p.1; omega, tagL_rise (t + 1) l⟩
/-- an order of the list is told by the tags -/
theorem tagL_order {R : Int × Int → Int × Int → Prop} : ∀ (t : Nat) (l : List (Int × Int)), l.Pairwise R → ∀ p ∈ tagL t l, ∀ q ∈ tagL t l, p.1 < q.1 → R p.2 q.2
  | _, [], _, p, hp, _, _, _ => by cases hp
  | t, x :: l, h, p, hp, q, hq, hlt => by
    obtain ⟨h1, h2⟩ := List.pairwise_cons.1 h
    rcases List.mem_cons.1 hp with e | hp
    · subst e
      rcases List.mem_cons.1 hq with e | hq
      · subst e; exact absurd hlt (Nat.lt_irrefl _)
      · exact h1 _ (tagL_ge (t + 1) l q hq).2
    · rcases List.mem_cons.1 hq with e | hq
      · subst e
        have := (tagL_ge (t + 1) l p hp).1
        have : p.1 < t := hlt
        omega
      · exact tagL_order (t + 1) l h2 p hp q hq hlt
/-- sorted by the minute, stably: the list -/
theorem sorted_is {F : Nat → Int → Bool} {a b : Int} {i : Nat} {O : List (Int × Int)} (h : LinS F a b i a O) {Z : List (Nat × Int × Int)} (hp : Z.Perm (tagL 0 O)) (hs : Srt (fun v : Int × Int => v.1) Z) : IsF F i a b (Z.map (·.2)) := by
  refine ⟨?_, fun p => ?_⟩
  · refine List.pairwise_map.2 (List.Pairwise.imp_of_mem (R := Ahead (fun v : Int × Int => v.1)) (fun {x y} hx hy hxy => ?_) hs)
    rcases hxy with hxy | ⟨hxy, hxt⟩
    · exact .inl hxy
    · rcases tagL_order 0 O h.srt x (hp.mem_iff.1 hx) y (hp.mem_iff.1 hy) hxt with ho | ⟨_, ho⟩
      · exact .inr ⟨hxy, ho⟩
      · have hxy' : x.2.1 = y.2.1 := hxy
        exact absurd hxy' (by omega)
  · have hm : p ∈ Z.map (·.2) ↔ p ∈ O := by
      have := (hp.map (·.2)).mem_iff (a := p)
      rwa [tagL_snd] at this
    rw [hm, h.mem]
    constructor
    · rintro (hq | ⟨_, p2, p3, _⟩)
      · exact hq
      · omega
    · exact .inl

/-! The reference's list: minute after minute. -/
/-- within a minute: the lines below i -/
structure MinI (F : Nat → Int → Bool) (k : Nat) (a m : Int) (i : Nat) (O : List (Int × Int)) : Prop where
  srt : SLx O
  mem : ∀ p, p ∈ O ↔ (InF F k a m p ∨ (p.1 = m ∧ ∃ j : Nat, j < i ∧ p.2 = (j : Int) ∧ F j m = true))
theorem MinI.take {F : Nat → Int → Bool} {k : Nat} {a m : Int} {i : Nat} {O : List (Int × Int)} (h : MinI F k a m i O) (hf : F i m = true) : MinI F k a m (i + 1) (O ++ [(m, (i : Int))]) := by
  refine ⟨List.pairwise_append.2 ⟨h.srt, List.pairwise_singleton _ _, fun x hx y hy => ?_⟩, fun p => ?_⟩
  · rw [List.mem_singleton.1 hy]
    unfold Lx
    rcases (h.mem x).1 hx with ⟨_, hx2, _⟩ | ⟨hx1, j, hj, hx2, _⟩
    · left; exact hx2
    · right; exact ⟨hx1, by show x.2 < (i : Int); omega⟩
  · rw [List.mem_append, h.mem, List.mem_singleton]
    constructor
    · rintro ((hp | ⟨p1, j, hj, p2⟩) | hp)
      · exact .inl hp
      · exact .inr ⟨p1, j, by omega, p2⟩
      · subst hp; exact .inr ⟨rfl, i, by omega, rfl, hf⟩
    · rintro (hp | ⟨p1, j, hj, p2, p3⟩)
      · exact .inl (.inl hp)
      · by_cases hji : j < i
        · exact .inl (.inr ⟨p1, j, hji, p2, p3⟩)
        · have : j = i := by omega
          subst this
          exact .inr (Prod.ext p1 p2)
theorem MinI.skip {F : Nat → Int → Bool} {k : Nat} {a m : Int} {i : Nat} {O : List (Int × Int)} (h : MinI F k a m i O) (hf : F i m = false) : MinI F k a m (i + 1) O := by
  refine ⟨h.srt, fun p => ?_⟩
  rw [h.mem]
  constructor
  · rintro (hp | ⟨p1, j, hj, p2⟩)
    · exact .inl hp
    · exact .inr ⟨p1, j, by omega, p2⟩
  · rintro (hp | ⟨p1, j, hj, p2, p3⟩)
    · exact .inl hp
    · by_cases hji : j < i
      · exact .inr ⟨p1, j, hji, p2, p3⟩
      · have : j = i := by omega
        subst this
        rw [hf] at p3
        cases p3
theorem MinI.start {F : Nat → Int → Bool} {k : Nat} {a m : Int} {O : List (Int × Int)} (h : IsF F k a m O) : MinI F k a m 0 O := by
  refine ⟨h.srt, fun p => ?_⟩
  rw [h.mem]
  constructor
  · exact .inl
  · rintro (hp | ⟨_, j, hj, _⟩)
    · exact hp
    · omega
theorem MinI.done {F : Nat → Int → Bool} {k : Nat} {a m : Int} {O : List (Int × Int)} (h : MinI F k a m k O) (ham : a ≤ m) : IsF F k a (m + 1) O := by
  refine ⟨h.srt, fun p => ?_⟩
  rw [h.mem]
  constructor
  · rintro (⟨p1, p2, p3⟩ | ⟨p1, j, hj, p2, p3⟩)
    · exact ⟨p1, by omega, p3⟩
    · exact ⟨by omega, by omega, j, hj, p2, by rw [p1]; exact p3⟩
  · rintro ⟨p1, p2, j, hj, p3, p4⟩
    by_cases hm : p.1 < m
    · exact .inl ⟨p1, hm, j, hj, p3, p4⟩
    · have e : p.1 = m := by omega
      exact .inr ⟨e, j, hj, p3, by rw [← e]; exact p4⟩
theorem MinI.many {F : Nat → Int → Bool} {k n : Nat} {a b m : Int} {i : Nat} {O : List (Int × Int)} (h : MinI F k a m i O) (hi : i ≤ k) (ham : a ≤ m) (hmb : m < b) (hn : n < O.length) : Many F k a b n := by
  refine ⟨O, h.srt.nodup, fun p hp => ?_, hn⟩
  rcases (h.mem p).1 hp with ⟨p1, p2, p3⟩ | ⟨p1, j, hj, p2, p3⟩
  · exact ⟨p1, by omega, p3⟩
  · exact ⟨by omega, by omega, j, by omega, p2, by rw [p1]; exact p3⟩
/-- nothing fits from c up to m: the list up to c is that up to m -/
theorem IsF.gap {F : Nat → Int → Bool} {k : Nat} {a c m : Int} {O : List (Int × Int)} (h : IsF F k a c O) (hcm : c ≤ m) (hn : ∀ i, i < k → ∀ j, c ≤ j → j < m → F i j = false) : IsF F k a m O := by
  refine ⟨h.srt, fun p => ?_⟩
  rw [h.mem]
  constructor
  · rintro ⟨p1, p2, p3⟩
    exact ⟨p1, by omega, p3⟩
  · rintro ⟨p1, p2, i, hi, p3, p4⟩
    by_cases hc : p.1 < c
    · exact ⟨p1, hc, i, hi, p3, p4⟩
    · have := hn i hi p.1 (by omega) p2
      rw [p4] at this
      cases this
theorem IsF.nil (F : Nat → Int → Bool) (k : Nat) (a : Int) : IsF F k a a [] := by
  refine ⟨List.Pairwise.nil, fun p => ⟨fun h => (by cases h), ?_⟩⟩
  rintro ⟨h1, h2, _⟩
  omega
end Go.Proofs.YtlhaidibcocooaaGreatDoor
