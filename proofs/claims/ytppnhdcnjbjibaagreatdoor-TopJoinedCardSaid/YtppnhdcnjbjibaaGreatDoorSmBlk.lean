/- Stable sorting, plain: blocks in order, merged two by two. -/
import Derived.Test.YtppnhdcnjbjibaaGreatDoorSmLaw
namespace Go.Proofs.YtppnhdcnjbjibaaGreatDoor

section
variable {α : Type}
/-- blocks of a size; the last one may be shorter -/
def FullB (bs : Nat) : List (List (Nat × α)) → Prop
  | [] => True
  | [X] => 0 < X.length ∧ X.length ≤ bs
  | X :: Y :: r => X.length = bs ∧ FullB bs (Y :: r)
theorem FullB.tail {bs : Nat} {X : List (Nat × α)} {r : List (List (Nat × α))} (h : FullB bs (X :: r)) : FullB bs r := by
  cases r with
  | nil => trivial
  | cons Y r => exact h.2
theorem FullB.pos {bs : Nat} (hb : 0 < bs) {X : List (Nat × α)} {r : List (List (Nat × α))} (h : FullB bs (X :: r)) : 0 < X.length ∧ X.length ≤ bs := by
  cases r with
  | nil => exact h
  | cons Y r => have := h.1; omega
theorem FullB.app {bs : Nat} : ∀ {D : List (List (Nat × α))} {T : List (List (Nat × α))}, (∀ X ∈ D, X.length = bs) → 0 < bs → FullB bs T → FullB bs (D ++ T)
  | [], _, _, _, h => h
  | [X], T, hD, hb, h => by
    cases T with
    | nil => have := hD X (by simp); exact ⟨by omega, by omega⟩
    | cons Y r => exact ⟨hD X (by simp), h⟩
  | X :: Y :: D, T, hD, hb, h => ⟨hD X (by simp), FullB.app (D := Y :: D) (fun Z hZ => hD Z (by simp at hZ ⊢; exact .inr hZ)) hb h⟩
variable (key : α → Int)
/-- blocks each of which is in order, their tags rising from block to block -/
def GoodB (B : List (List (Nat × α))) : Prop := (∀ X ∈ B, Srt key X) ∧ B.Pairwise Tags
variable {key}
theorem GoodB.merge {D r : List (List (Nat × α))} {X Y Z : List (Nat × α)} (h : GoodB key (D ++ X :: Y :: r)) (hp : Z.Perm (X ++ Y)) (hs : Srt key Z) : GoodB key (D ++ Z :: r) := by
  obtain ⟨h1, h2⟩ := h
  obtain ⟨a1, a2, a3⟩ := List.pairwise_append.1 h2
  obtain ⟨b1, b2⟩ := List.pairwise_cons.1 a2
  obtain ⟨c1, c2⟩ := List.pairwise_cons.1 b2
  refine ⟨fun W hW => ?_, List.pairwise_append.2 ⟨a1, List.pairwise_cons.2 ⟨fun W hW => ?_, c2⟩, fun U hU W hW => ?_⟩⟩
  · rcases List.mem_append.1 hW with hW | hW
    · exact h1 W (List.mem_append_left _ hW)
    · rcases List.mem_cons.1 hW with rfl | hW
      · exact hs
      · exact h1 W (by simp [hW])
  · intro x hx y hy
    rcases List.mem_append.1 (hp.mem_iff.1 hx) with hx | hx
    · exact b1 W (by simp [hW]) x hx y hy
    · exact c1 W hW x hx y hy
  · rcases List.mem_cons.1 hW with rfl | hW
    · intro x hx y hy
      rcases List.mem_append.1 (hp.mem_iff.1 hy) with hy | hy
      · exact a3 U hU X (by simp) x hx y hy
      · exact a3 U hU Y (by simp) x hx y hy
    · exact a3 U hU W (by simp [hW])
theorem GoodB.two {D r : List (List (Nat × α))} {X Y : List (Nat × α)} (h : GoodB key (D ++ X :: Y :: r)) : Srt key X ∧ Srt key Y ∧ Tags X Y :=
  ⟨h.1 X (by simp), h.1 Y (by simp), (List.pairwise_cons.1 (List.pairwise_append.1 h.2).2.1).1 Y (by simp)⟩
/-- blocks in order, one block at most: all is in order -/
theorem FullB.done {bs : Nat} {B : List (List (Nat × α))} (hb : 0 < bs) (h : FullB bs B) (hg : GoodB key B) (hn : B.flatten.length ≤ bs) : Srt key B.flatten := by
  match B, h, hg, hn with
  | [], _, _, _ => exact List.Pairwise.nil
  | [X], _, hg, _ => simpa using hg.1 X (by simp)
  | X :: Y :: r, h, _, hn =>
    have h1 := h.1
    have h2 := (FullB.pos hb h.2).1
    simp at hn
    omega
/-- one block more, behind those in order -/
theorem GoodB.snoc {D : List (List (Nat × α))} {Z : List (Nat × α)} (h : GoodB key D) (hs : Srt key Z) (ht : Tags D.flatten Z) : GoodB key (D ++ [Z]) := by
  refine ⟨fun W hW => ?_, List.pairwise_append.2 ⟨h.2, List.pairwise_singleton _ _, fun U hU W hW => ?_⟩⟩
  · rcases List.mem_append.1 hW with hW | hW
    · exact h.1 W hW
    · rw [List.mem_singleton.1 hW]; exact hs
  · rw [List.mem_singleton.1 hW]
    exact fun x hx y hy => ht x (List.mem_flatten.2 ⟨U, hU, hx⟩) y hy
/-- tags that rise -/
def Rise (l : List (Nat × α)) : Prop := l.Pairwise fun x y => x.1 < y.1
theorem Rise.cut {l m : List (Nat × α)} (h : Rise (l ++ m)) : Rise l ∧ Rise m ∧ Tags l m := List.pairwise_append.1 h
theorem flat_snoc (D : List (List (Nat × α))) (Z : List (Nat × α)) : (D ++ [Z]).flatten = D.flatten ++ Z := by simp
theorem flat_len {b : Nat} : ∀ {D : List (List (Nat × α))}, (∀ X ∈ D, X.length = b) → D.flatten.length = D.length * b
  | [], _ => by simp
  | X :: D, h => by
    rw [List.flatten_cons, List.length_append, h X (by simp), flat_len (fun Y hY => h Y (by simp [hY])), List.length_cons, Nat.add_mul]
    omega
end
end Go.Proofs.YtppnhdcnjbjibaaGreatDoor
