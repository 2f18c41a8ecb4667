/- Stable sorting, plain: the first blocks, and a pass of merges. -/
import Derived.Test.YtppnhdcnjbjibaaGreatDoorSmCut
namespace Go.Proofs.YtppnhdcnjbjibaaGreatDoor

section
variable {α : Type} {key : α → Int}
/-- so many blocks of a list are in order, the rest is as it was -/
structure FirstS (key : α → Int) (L : List (Nat × α)) (bs : Nat) (D : List (List (Nat × α))) : Prop where
  full : ∀ X ∈ D, X.length = bs
  good : GoodB key D
  perm : D.flatten.Perm (L.take D.flatten.length)
theorem FirstS.nil (key : α → Int) (L : List (Nat × α)) (bs : Nat) : FirstS key L bs [] := ⟨(fun _ h => by cases h), ⟨(fun _ h => by cases h), List.Pairwise.nil⟩, by simp⟩
theorem FirstS.good_snoc {L : List (Nat × α)} {bs : Nat} {D : List (List (Nat × α))} (h : FirstS key L bs D) (hr : Rise L) {M Z : List (Nat × α)} (hM : ∀ x ∈ M, x ∈ L.drop D.flatten.length) (hZ : Z.Perm M) (hs : Srt key Z) : GoodB key (D ++ [Z]) := by
  refine h.good.snoc hs ?_
  have hr' : Rise (L.take D.flatten.length ++ L.drop D.flatten.length) := by rw [List.take_append_drop]; exact hr
  exact (Rise.cut hr').2.2.sub (fun x hx => h.perm.mem_iff.1 hx) (fun x hx => hM x (hZ.mem_iff.1 hx))
theorem FirstS.step {L : List (Nat × α)} {bs : Nat} {D : List (List (Nat × α))} (h : FirstS key L bs D) (hr : Rise L) {Z : List (Nat × α)} (hb : D.flatten.length + bs ≤ L.length) (hZ : Z.Perm ((L.drop D.flatten.length).take bs)) (hs : Srt key Z) : FirstS key L bs (D ++ [Z]) := by
  have hl : Z.length = bs := by
    rw [hZ.length_eq, List.length_take, List.length_drop]
    omega
  refine ⟨fun X hX => ?_, h.good_snoc hr (fun x hx => List.mem_of_mem_take hx) hZ hs, ?_⟩
  · rcases List.mem_append.1 hX with hX | hX
    · exact h.full X hX
    · rw [List.mem_singleton.1 hX]; exact hl
  · rw [flat_snoc, List.length_append, hl, List.take_add]
    exact h.perm.append hZ
/-- a list that rises: a part of it rises -/
theorem Rise.part {L : List (Nat × α)} (h : Rise L) (a b : Nat) : Rise ((L.drop a).take b) := h.sublist ((List.take_sublist _ _).trans (List.drop_sublist _ _))
/-- a pass of merges: blocks of twice the size, then blocks that are not merged yet -/
structure PassS (key : α → Int) (L : List (Nat × α)) (bs : Nat) (D T : List (List (Nat × α))) : Prop where
  full : ∀ X ∈ D, X.length = 2 * bs
  rest : FullB bs T
  good : GoodB key (D ++ T)
  perm : (D ++ T).flatten.Perm L
theorem FirstS.last {L : List (Nat × α)} {bs : Nat} {D : List (List (Nat × α))} (h : FirstS key L bs D) (hr : Rise L) (hb : 0 < bs) {Z : List (Nat × α)} (h1 : L.length - D.flatten.length < bs) (hZ : Z.Perm (L.drop D.flatten.length)) (hs : Srt key Z) (hz : 0 < Z.length) : PassS key L bs [] (D ++ [Z]) := by
  have hl := hZ.length_eq
  rw [List.length_drop] at hl
  refine ⟨(fun _ h => by cases h), FullB.app h.full hb ⟨hz, by omega⟩, h.good_snoc hr (fun x hx => hx) hZ hs, ?_⟩
  rw [List.nil_append, flat_snoc]
  have := h.perm.append hZ
  rwa [List.take_append_drop] at this
theorem FirstS.none {L : List (Nat × α)} {bs : Nat} {D : List (List (Nat × α))} (h : FirstS key L bs D) (hb : 0 < bs) (hd : D.flatten.length = L.length) : PassS key L bs [] D := by
  refine ⟨(fun _ h => by cases h), ?_, h.good, ?_⟩
  · have := FullB.app (T := []) h.full hb trivial
    rwa [List.append_nil] at this
  · have := h.perm
    rwa [hd, List.take_length] at this
theorem two_of {bs : Nat} (_hb : 0 < bs) {T : List (List (Nat × α))} (h : FullB bs T) (hl : 2 * bs ≤ T.flatten.length) : ∃ X Y r, T = X :: Y :: r ∧ X.length = bs ∧ Y.length = bs ∧ FullB bs r := by
  match T, h with
  | [], _ => simp at hl; omega
  | [X], h => have := h.2; simp at hl; omega
  | [X, Y], h =>
    have h1 := h.1
    have h2 := h.2.2
    simp at hl
    exact ⟨X, Y, [], rfl, h1, by omega, trivial⟩
  | X :: Y :: Z :: r, h => exact ⟨X, Y, Z :: r, rfl, h.1, h.2.1, h.2.2⟩
theorem last_of {bs : Nat} (_hb : 0 < bs) {T : List (List (Nat × α))} (h : FullB bs T) (hl : T.flatten.length < 2 * bs) (hm : bs < T.flatten.length) : ∃ X Y, T = [X, Y] ∧ X.length = bs ∧ 0 < Y.length ∧ Y.length ≤ bs := by
  match T, h with
  | [], _ => simp at hm
  | [X], h => have := h.2; simp at hm; omega
  | [X, Y], h => exact ⟨X, Y, rfl, h.1, h.2.1, h.2.2⟩
  | X :: Y :: Z :: r, h =>
    have h1 := h.1
    have h2 := h.2.1
    simp at hl
    omega
theorem small_of {bs : Nat} (hb : 0 < bs) {T : List (List (Nat × α))} (h : FullB bs T) (hl : T.flatten.length ≤ bs) : FullB (2 * bs) T := by
  match T, h with
  | [], _ => trivial
  | [X], h => exact ⟨h.1, by have := h.2; omega⟩
  | X :: Y :: r, h =>
    have h1 := h.1
    have h2 := (FullB.pos hb h.2).1
    simp at hl
    omega
/-- a round of the pass -/
theorem PassS.step {L : List (Nat × α)} {bs : Nat} {D r : List (List (Nat × α))} {X Y Z : List (Nat × α)} (h : PassS key L bs D (X :: Y :: r)) (hX : X.length = bs) (hY : Y.length = bs) (hr : FullB bs r) (hp : Z.Perm (X ++ Y)) (hs : Srt key Z) : PassS key L bs (D ++ [Z]) r := by
  refine ⟨fun W hW => ?_, hr, ?_, ?_⟩
  · rcases List.mem_append.1 hW with hW | hW
    · exact h.full W hW
    · rw [List.mem_singleton.1 hW, hp.length_eq, List.length_append]; omega
  · have := h.good.merge hp hs
    simpa using this
  · refine List.Perm.trans ?_ h.perm
    simp only [List.append_assoc, List.flatten_append, List.flatten_cons, List.flatten_nil, List.nil_append]
    refine List.Perm.append_left _ ?_
    rw [← List.append_assoc X]
    exact hp.append_right _
/-- the pass's end: the last block is merged with the one ahead of it -/
theorem PassS.endTwo {L : List (Nat × α)} {bs : Nat} {D : List (List (Nat × α))} {X Y Z : List (Nat × α)} (h : PassS key L bs D [X, Y]) (hb : 0 < bs) (hX : X.length = bs) (hY : 0 < Y.length ∧ Y.length ≤ bs) (hp : Z.Perm (X ++ Y)) (hs : Srt key Z) : PassS key L (2 * bs) [] (D ++ [Z]) := by
  refine ⟨(fun _ h => by cases h), FullB.app h.full (by omega) ⟨?_, ?_⟩, h.good.merge hp hs, ?_⟩
  · rw [hp.length_eq, List.length_append]; omega
  · rw [hp.length_eq, List.length_append]; omega
  · refine List.Perm.trans ?_ h.perm
    simp only [List.flatten_append, List.flatten_cons, List.flatten_nil, List.nil_append, List.append_nil]
    exact List.Perm.append_left _ hp
/-- the pass's end: nothing is left to merge -/
theorem PassS.endOne {L : List (Nat × α)} {bs : Nat} {D T : List (List (Nat × α))} (h : PassS key L bs D T) (hb : 0 < bs) (hl : T.flatten.length ≤ bs) : PassS key L (2 * bs) [] (D ++ T) :=
  ⟨(fun _ h => by cases h), FullB.app h.full (by omega) (small_of hb h.rest hl), h.good, h.perm⟩
theorem PassS.done {L : List (Nat × α)} {bs : Nat} {T : List (List (Nat × α))} (h : PassS key L bs [] T) (hb : 0 < bs) (hl : L.length ≤ bs) : Srt key T.flatten := by
  have hp := h.perm.length_eq
  rw [List.nil_append] at hp
  exact FullB.done hb h.rest h.good (by omega)
theorem PassS.lens {L : List (Nat × α)} {bs : Nat} {D T : List (List (Nat × α))} (h : PassS key L bs D T) : D.flatten.length + T.flatten.length = L.length := by
  have := h.perm.length_eq
  rwa [List.flatten_append, List.length_append] at this
end
end Go.Proofs.YtppnhdcnjbjibaaGreatDoor
