/- Times, the reference: a text that was printed is read as the same times. -/
import Derived.Test.YtlhaidibcocooaaGreatDoorTimesT
import Derived.Test.YtlhaidibcocooaaGreatDoorTimesF
namespace Go.Proofs.YtlhaidibcocooaaGreatDoor
open Go.RowKit Go.Shelf

theorem pkT_bytes {low top : Nat} {p : PK} (h : okPK low top p) (ht : top < 64) : pkT p ≠ [] ∧ ∀ b ∈ pkT p, b.toNat < 128 ∧ blankP b.toNat = false ∧ b ≠ 44 := by
  have hd : ∀ n, n < 100 → ∀ b ∈ Lib.decDigits n, b.toNat < 128 ∧ blankP b.toNat = false ∧ b ≠ 44 := fun n hn b hb => by
    have h1 := (dig_ok hn).2.2.1 b hb
    refine ⟨by omega, ?_, fun e => by rw [e] at h1; exact absurd h1.1 (by decide)⟩
    unfold blankP
    simp
    omega
  have hn : ∀ n, n < 100 → Lib.decDigits n ≠ [] := fun n hn he => by
    have h1 := (dig_ok hn).1
    rw [he] at h1
    exact absurd h1 (by decide)
  cases p with
  | num n => exact ⟨hn n (by have := h.2; omega), hd n (by have := h.2; omega)⟩
  | range a b =>
    have hb := h.2.2
    have ha := h.2.1
    refine ⟨by simp [pkT], fun c hc => ?_⟩
    simp only [pkT, List.mem_append, List.mem_cons] at hc
    rcases hc with hc | rfl | hc
    · exact hd a (by omega) c hc
    · decide
    · exact hd b (by omega) c hc
  | star => exact ⟨by simp [pkT], fun b hb => by simp only [pkT, List.mem_singleton] at hb; subst hb; decide⟩
  | starBy n =>
    refine ⟨by simp [pkT], fun c hc => ?_⟩
    simp only [pkT, List.mem_cons] at hc
    rcases hc with rfl | rfl | hc
    · decide
    · decide
    · exact hd n h.2.2 c hc
theorem join_bytes {q : UInt8 → Prop} (c : UInt8) (hc : q c) (L : List (List UInt8)) (h : ∀ x ∈ L, ∀ b ∈ x, q b) : ∀ b ∈ Lib.join L [c], q b := by
  induction L with
  | nil => intro b hb; simp [Lib.join, List.intercalate] at hb
  | cons x t ih =>
    cases t with
    | nil => rw [Lib.join_one]; exact h x (by simp)
    | cons y t =>
      intro b hb
      rw [join_two] at hb
      rcases List.mem_append.1 hb with hb | hb
      · exact h x (by simp) b hb
      · rcases List.mem_cons.1 hb with rfl | hb
        · exact hc
        · exact ih (fun z hz => h z (by simp [hz])) b hb
theorem field_text {low top : Nat} {l : List PK} (hne : l ≠ []) (h : ∀ p ∈ l, okPK low top p) (ht : top < 64) : okField (fieldT l) ∧ cutP (fieldT l) = l.map (fun p => toB (pkT p)) := by
  refine ⟨⟨?_, ?_⟩, ?_⟩
  · cases l with
    | nil => exact absurd rfl hne
    | cons p r =>
      have h1 := (pkT_bytes (h p (by simp)) ht).1
      unfold fieldT
      cases r with
      | nil => simpa [Lib.join_one] using h1
      | cons q r => rw [List.map_cons, List.map_cons, join_two]; simp
  · intro b hb
    have := join_bytes (q := fun b => b.toNat < 128 ∧ blankP b.toNat = false) 44 (by decide) (l.map pkT) (fun x hx b hb => by
      obtain ⟨p, hp, rfl⟩ := List.mem_map.1 hx
      have := (pkT_bytes (h p hp) ht).2 b hb
      exact ⟨this.1, this.2.1⟩) b hb
    exact this
  · have := (splitB_join 44 (l.map pkT) (by simpa using hne) (fun x hx hc => by
      obtain ⟨p, hp, rfl⟩ := List.mem_map.1 hx
      exact ((pkT_bytes (h p hp) ht).2 44 hc).2.2 rfl)).1
    rw [List.map_map] at this
    exact this
/-- what is shown has parts, is short, and begins with a star just if it may -/
theorem shown_text {low high : Nat} {wk : Bool} {set : Nat} {special any : Bool} {l : List PK} (h : shownK low high wk set special any = some l) (hset : set < 2 ^ 64) : l ≠ [] ∧ (fieldT l).length ≤ 400 := by
  unfold shownK at h
  split at h
  · cases h
  rename_i h1
  split at h
  · have hl : [PK.star] = l := by simpa using h
    subst hl
    exact ⟨by simp, by decide⟩
  · split at h
    · have hl : listK set = l := by simpa using h
      subst hl
      refine ⟨?_, Nat.le_trans (listT_small set) (by decide)⟩
      have := partsL_ne (set := set) (fun e => h1 (.inl e)) hset
      unfold listK
      simpa using this
    · cases ht2 : tryBy low (topOf high wk) wk set 99 1 with
      | none => rw [ht2] at h; cases h
      | some n =>
        rw [ht2] at h
        have hl : PK.starBy n :: listK (subN set (stepN low (topOf high wk) wk n)) = l := by simpa using h
        subst hl
        obtain ⟨hn1, hn2, _⟩ := tryBy_some ht2
        have hd := (dig_ok (n := n) (by omega)).2.1
        refine ⟨by simp, ?_⟩
        have hs := subN_lt set (stepN low (topOf high wk) wk n) hset
        generalize subN set (stepN low (topOf high wk) wk n) = r at *
        by_cases hr : r = 0
        · subst hr
          rw [star_alone]
          simp
          omega
        · rw [star_text hr hs]
          have := listT_small r
          simp
          omega
theorem star_first (p : PK) (r : List PK) (hp : pkT p ≠ []) : star0 (fieldT (p :: r)) = star0 (pkT p) := by
  unfold fieldT
  cases r with
  | nil => simp [Lib.join_one]
  | cons q r =>
    rw [List.map_cons, List.map_cons, join_two]
    cases h : pkT p with
    | nil => exact absurd h hp
    | cons b t => rfl
theorem digits_noStar {n : Nat} (h : n < 100) : star0 (Lib.decDigits n) = false ∧ Lib.decDigits n ≠ [] := by
  have hd := dig_ok h
  cases he : Lib.decDigits n with
  | nil => rw [he] at hd; exact absurd hd.1 (by decide)
  | cons b t =>
    have := hd.2.2.1 b (by rw [he]; simp)
    refine ⟨?_, by simp⟩
    unfold star0
    simp
    omega
theorem shown_star {low high : Nat} {wk : Bool} {set : Nat} {any : Bool} {l : List PK} (h : shownK low high wk set true any = some l) (hset : set < 2 ^ 64) : star0 (fieldT l) = any := by
  unfold shownK at h
  split at h
  · cases h
  rename_i h1
  split at h
  · rename_i h2
    have hl : [PK.star] = l := by simpa using h
    subst hl
    have : any = true := by simpa using h2.2
    rw [this]
    decide
  · split at h
    · rename_i h3
      have hl : listK set = l := by simpa using h
      subst hl
      rw [h3]
      have hne := partsL_ne (set := set) (fun e => h1 (.inl e)) hset
      unfold listK
      cases hp : partsL set 64 0 with
      | nil => exact absurd hp hne
      | cons q r =>
        have hq := partsL_range set 64 0 q (by rw [hp]; simp)
        have h1 := digits_noStar (n := q.1) (by omega)
        rw [List.map_cons]
        have e : star0 (pkT (pkOf q)) = false ∧ pkT (pkOf q) ≠ [] := by
          unfold pkOf
          split
          · exact h1
          · refine ⟨?_, by simp [pkT]⟩
            show star0 (Lib.decDigits q.1 ++ 45 :: Lib.decDigits q.2) = false
            cases hd : Lib.decDigits q.1 with
            | nil => exact absurd hd h1.2
            | cons b t =>
              have := h1.1
              rw [hd] at this
              exact this
        rw [star_first _ _ e.2, e.1]
    · rename_i h3
      cases ht2 : tryBy low (topOf high wk) wk set 99 1 with
      | none => rw [ht2] at h; cases h
      | some n =>
        rw [ht2] at h
        have hl : PK.starBy n :: listK (subN set (stepN low (topOf high wk) wk n)) = l := by simpa using h
        subst hl
        rw [star_first _ _ (by simp [pkT])]
        have : any = true := by cases any <;> simp at h3 ⊢
        rw [this]
        rfl

end Go.Proofs.YtlhaidibcocooaaGreatDoor
