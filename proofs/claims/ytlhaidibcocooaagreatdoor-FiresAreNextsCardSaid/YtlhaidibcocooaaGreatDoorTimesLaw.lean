/- Times, the plain law: a set of numbers below 64 is written as a list of numbers and ranges, and what is written gives the set again. No program in sight. -/
import Derived.Lib.Hide
import Derived.Lib.ItoaNum
import Derived.Lib.Join
namespace Go.Proofs.YtlhaidibcocooaaGreatDoor

theorem ex_cons {α : Type} {p : α → Prop} {a : α} {l : List α} : (∃ x, x ∈ a :: l ∧ p x) ↔ p a ∨ ∃ x, x ∈ l ∧ p x := by simp
/-- the bits of numbers, added to a set -/
def orL (acc : Nat) : List Nat → Nat
  | [] => acc
  | n :: r => orL (acc ||| 2 ^ n) r
theorem orL_bit (l : List Nat) (acc k : Nat) : (orL acc l).testBit k = (acc.testBit k || decide (k ∈ l)) := by
  induction l generalizing acc with
  | nil => simp [orL]
  | cons n r ih =>
    rw [orL, ih, Nat.testBit_or, Nat.testBit_two_pow]
    by_cases h : n = k
    · subst h; simp
    · have h' : ¬ k = n := fun e => h e.symm
      simp [h, h']
/-- low, low + by .. up to high -/
def upL (n high step : Nat) : List Nat := if _h : n ≤ high ∧ 0 < step then n :: upL (n + step) high step else []
termination_by high + 1 - n
theorem upL_mem (d n high step k : Nat) (hd : high + 1 - n ≤ d) : k ∈ upL n high step → n ≤ k ∧ k ≤ high := by
  induction d generalizing n with
  | zero =>
    unfold upL
    rw [dif_neg (by omega)]
    simp
  | succ d ih =>
    unfold upL
    split
    · rename_i h
      intro hk
      rcases List.mem_cons.1 hk with rfl | hk
      · exact ⟨Nat.le_refl _, h.1⟩
      · have := ih (n + step) (by omega) hk
        omega
    · simp
theorem upL_one (d n high k : Nat) (hd : high + 1 - n ≤ d) : k ∈ upL n high 1 ↔ n ≤ k ∧ k ≤ high := by
  induction d generalizing n with
  | zero =>
    unfold upL
    rw [dif_neg (by omega)]
    simp; omega
  | succ d ih =>
    unfold upL
    split
    · rename_i h
      rw [List.mem_cons, ih (n + 1) (by omega)]
      omega
    · simp; omega
/-- where the run of a number ends -/
def runEnd (set : Nat) (e : Nat) : Nat := if e < 63 ∧ set.testBit (e + 1) = true then runEnd set (e + 1) else e
termination_by 63 - e
theorem runEnd_all (set d e : Nat) (hd : 63 - e ≤ d) (he : e < 64) : e ≤ runEnd set e ∧ runEnd set e < 64 ∧ ∀ k, e < k → k ≤ runEnd set e → set.testBit k = true := by
  induction d generalizing e with
  | zero =>
    unfold runEnd
    rw [if_neg (by omega)]
    exact ⟨Nat.le_refl _, he, fun k h1 h2 => by omega⟩
  | succ d ih =>
    unfold runEnd
    split
    · rename_i h
      obtain ⟨h1, h2, h3⟩ := ih (e + 1) (by omega) (by omega)
      refine ⟨by omega, h2, fun k hk1 hk2 => ?_⟩
      by_cases hk : k = e + 1
      · subst hk; exact h.2
      · exact h3 k (by omega) hk2
    · exact ⟨Nat.le_refl _, he, fun k h1 h2 => by omega⟩
/-- the numbers and ranges that a set is written as -/
def partsL (set : Nat) : Nat → Nat → List (Nat × Nat)
  | 0, _ => []
  | f + 1, n => if n < 64 then (if set.testBit n = true then (if runEnd set n < n + 2 then (n, n) :: partsL set f (n + 1) else (n, runEnd set n) :: partsL set f (runEnd set n + 1)) else partsL set f (n + 1)) else []
theorem partsL_bits (set f n : Nat) (hf : 64 - n ≤ f) (k : Nat) : (∃ p ∈ partsL set f n, p.1 ≤ k ∧ k ≤ p.2) ↔ n ≤ k ∧ k < 64 ∧ set.testBit k = true := by
  induction f generalizing n with
  | zero =>
    simp only [partsL]
    constructor
    · rintro ⟨p, hp, _⟩; simp at hp
    · rintro ⟨h1, h2, _⟩; omega
  | succ f ih =>
    simp only [partsL]
    split
    · rename_i hn
      split
      · rename_i hb
        split
        · rw [ex_cons, ih (n + 1) (by omega)]
          constructor
          · rintro (⟨h1, h2⟩ | ⟨h1, h2, h3⟩)
            · have : k = n := by omega
              subst this; exact ⟨by omega, by omega, hb⟩
            · exact ⟨by omega, h2, h3⟩
          · rintro ⟨h1, h2, h3⟩
            by_cases hk : k = n
            · exact .inl ⟨by omega, by omega⟩
            · exact .inr ⟨by omega, h2, h3⟩
        · obtain ⟨r1, r2, r3⟩ := runEnd_all set 63 n (by omega) hn
          rw [ex_cons, ih (runEnd set n + 1) (by omega)]
          constructor
          · rintro (⟨h1, h2⟩ | ⟨h1, h2, h3⟩)
            · have h1' : n ≤ k := h1
              have h2' : k ≤ runEnd set n := h2
              by_cases hk : k = n
              · subst hk; exact ⟨by omega, by omega, hb⟩
              · exact ⟨by omega, by omega, r3 k (by omega) h2'⟩
            · exact ⟨by omega, h2, h3⟩
          · rintro ⟨h1, h2, h3⟩
            by_cases hk : k ≤ runEnd set n
            · exact .inl ⟨h1, hk⟩
            · exact .inr ⟨by omega, h2, h3⟩
      · rename_i hb
        rw [ih (n + 1) (by omega)]
        constructor
        · rintro ⟨h1, h2, h3⟩; exact ⟨by omega, h2, h3⟩
        · rintro ⟨h1, h2, h3⟩
          refine ⟨?_, h2, h3⟩
          by_cases hk : k = n
          · subst hk; exact absurd h3 hb
          · omega
    · constructor
      · rintro ⟨p, hp, _⟩; simp at hp
      · rintro ⟨h1, h2, _⟩; omega
theorem partsL_range (set f n : Nat) : ∀ p ∈ partsL set f n, n ≤ p.1 ∧ p.1 ≤ p.2 ∧ p.2 < 64 := by
  induction f generalizing n with
  | zero => simp [partsL]
  | succ f ih =>
    simp only [partsL]
    split
    · rename_i hn
      split
      · split
        · intro p hp
          rcases List.mem_cons.1 hp with rfl | hp
          · exact ⟨Nat.le_refl _, Nat.le_refl _, hn⟩
          · have := ih (n + 1) p hp; omega
        · obtain ⟨r1, r2, r3⟩ := runEnd_all set 63 n (by omega) hn
          intro p hp
          rcases List.mem_cons.1 hp with rfl | hp
          · exact ⟨Nat.le_refl _, r1, r2⟩
          · have := ih (runEnd set n + 1) p hp; omega
      · intro p hp
        have := ih (n + 1) p hp; omega
    · simp
/-- a set that is written gives itself again -/
def bitsOf (l : List (Nat × Nat)) (acc : Nat) : Nat := l.foldl (fun a p => a ||| orL 0 (upL p.1 p.2 1)) acc
theorem bitsOf_bit (l : List (Nat × Nat)) (acc k : Nat) : (bitsOf l acc).testBit k = true ↔ acc.testBit k = true ∨ ∃ p ∈ l, p.1 ≤ k ∧ k ≤ p.2 := by
  induction l generalizing acc with
  | nil => simp [bitsOf]
  | cons p r ih =>
    have := ih (acc ||| orL 0 (upL p.1 p.2 1))
    unfold bitsOf at this ⊢
    rw [List.foldl_cons, this, Nat.testBit_or, orL_bit, ex_cons]
    simp only [Nat.zero_testBit, Bool.false_or, Bool.or_eq_true, decide_eq_true_eq, upL_one _ p.1 p.2 k (Nat.le_refl _)]
    constructor
    · rintro ((h | h) | h)
      · exact .inl h
      · exact .inr (.inl h)
      · exact .inr (.inr h)
    · rintro (h | h | h)
      · exact .inl (.inl h)
      · exact .inl (.inr h)
      · exact .inr h
theorem parts_back (set : Nat) (h : set < 2 ^ 64) : bitsOf (partsL set 64 0) 0 = set := by
  apply Nat.eq_of_testBit_eq
  intro k
  have h1 := bitsOf_bit (partsL set 64 0) 0 k
  rw [partsL_bits set 64 0 (by omega) k] at h1
  have h2 : set.testBit k = true → k < 64 := fun hb => by
    rcases Nat.lt_or_ge k 64 with hk | hk
    · exact hk
    · rw [Nat.testBit_lt_two_pow (Nat.lt_of_lt_of_le h (Nat.pow_le_pow_right (by decide) hk))] at hb
      cases hb
  cases hb : set.testBit k with
  | true =>
    rw [h1]
    exact .inr ⟨Nat.zero_le _, h2 hb, hb⟩
  | false =>
    cases hc : (bitsOf (partsL set 64 0) 0).testBit k with
    | false => rfl
    | true =>
      rcases h1.1 hc with h | ⟨_, _, h⟩
      · simp at h
      · rw [hb] at h; cases h

/-- a part of a field: a number, a range, a star, a star with a step -/
inductive PK where
  | num (n : Nat)
  | range (a b : Nat)
  | star
  | starBy (n : Nat)
def pkT : PK → List UInt8
  | .num n => Lib.decDigits n
  | .range a b => Lib.decDigits a ++ 45 :: Lib.decDigits b
  | .star => [42]
  | .starBy n => 42 :: 47 :: Lib.decDigits n
def pkBits (low top : Nat) : PK → Nat
  | .num n => orL 0 (upL n n 1)
  | .range a b => orL 0 (upL a b 1)
  | .star => orL 0 (upL low top 1)
  | .starBy n => orL 0 (upL low top n)
def pkOf (p : Nat × Nat) : PK := if p.1 = p.2 then .num p.1 else .range p.1 p.2
theorem pkOf_bits (low top : Nat) (p : Nat × Nat) : pkBits low top (pkOf p) = orL 0 (upL p.1 p.2 1) := by
  unfold pkOf
  split
  · rename_i h; simp only [pkBits]; rw [← h]
  · rfl
def listK (set : Nat) : List PK := (partsL set 64 0).map pkOf
def fieldT (l : List PK) : List UInt8 := Lib.join (l.map pkT) [44]
def orBits (low top : Nat) (l : List PK) (acc : Nat) : Nat := l.foldl (fun a p => a ||| pkBits low top p) acc
theorem orBits_list (low top : Nat) (l : List (Nat × Nat)) (acc : Nat) : orBits low top (l.map pkOf) acc = bitsOf l acc := by
  unfold orBits bitsOf
  rw [List.foldl_map]
  simp only [pkOf_bits]
/-- all that a field may hold -/
def allN (low high : Nat) : Nat := orL 0 (upL low high 1)
/-- what a star with a step holds; wk: seven is the same as zero -/
def foldS (wk : Bool) (n : Nat) : Nat := if wk = true ∧ n = 7 then 0 else n
def stepN (low top : Nat) (wk : Bool) (step : Nat) : Nat := orL 0 ((upL low top step).map (foldS wk))
/-- what stands in x and not in y -/
def subN (x y : Nat) : Nat := x &&& (18446744073709551615 - y)
/-- the first step from one on that fits -/
def tryBy (low top : Nat) (wk : Bool) (set : Nat) : Nat → Nat → Option Nat
  | 0, _ => none
  | f + 1, n => if subN (stepN low top wk n) set = 0 then some n else tryBy low top wk set f (n + 1)
def topOf (high : Nat) (wk : Bool) : Nat := if wk then 7 else high
/-- a field as it is shown: high is six for weekdays -/
def shownK (low high : Nat) (wk : Bool) (set : Nat) (special any : Bool) : Option (List PK) :=
  if set = 0 ∨ subN set (allN low high) ≠ 0 then none
  else if set = allN low high ∧ (any = true ∨ special = false) then some [.star]
  else if any = false then some (listK set)
  else (tryBy low (topOf high wk) wk set 99 1).map fun n => .starBy n :: listK (subN set (stepN low (topOf high wk) wk n))
theorem subN_bit (x y k : Nat) (hx : x < 2 ^ 64) (hy : y < 2 ^ 64) : (subN x y).testBit k = (x.testBit k && !y.testBit k) := by
  unfold subN
  rw [Nat.testBit_and]
  have h64 : (18446744073709551615 : Nat) = 2 ^ 64 - 1 := by decide
  rw [h64, show 2 ^ 64 - 1 - y = 2 ^ 64 - (y + 1) by omega, Nat.testBit_two_pow_sub_succ hy]
  rcases Nat.lt_or_ge k 64 with hk | hk
  · simp [hk]
  · rw [Nat.testBit_lt_two_pow (Nat.lt_of_lt_of_le hx (Nat.pow_le_pow_right (by decide) hk))]
    simp
theorem orL_lt (l : List Nat) (acc m : Nat) (h : ∀ n ∈ l, n < m) (ha : acc < 2 ^ m) : orL acc l < 2 ^ m := by
  induction l generalizing acc with
  | nil => exact ha
  | cons n r ih =>
    rw [orL]
    exact ih _ (fun k hk => h k (List.mem_cons_of_mem _ hk)) (Nat.or_lt_two_pow ha (Nat.pow_lt_pow_right (by decide) (h n List.mem_cons_self)))
theorem subN_zero {x y : Nat} (hx : x < 2 ^ 64) (hy : y < 2 ^ 64) (h : subN x y = 0) (k : Nat) (hk : x.testBit k = true) : y.testBit k = true := by
  have := subN_bit x y k hx hy
  rw [h, hk] at this
  simpa using this
theorem tryBy_some {low top : Nat} {wk : Bool} {set f n r : Nat} (h : tryBy low top wk set f n = some r) : n ≤ r ∧ r < n + f ∧ subN (stepN low top wk r) set = 0 := by
  induction f generalizing n with
  | zero => simp [tryBy] at h
  | succ f ih =>
    rw [tryBy] at h
    split at h
    · rename_i hc
      have : n = r := by simpa using h
      subst this
      exact ⟨Nat.le_refl _, by omega, hc⟩
    · have := ih h
      exact ⟨by omega, by omega, this.2.2⟩
/-- seven is Sunday -/
def foldW (wk : Bool) (b : Nat) : Nat := if wk = true ∧ b.testBit 7 = true then (b &&& 127) ||| 1 else b
theorem upL_head (low top step : Nat) (h : low ≤ top) (hs : 0 < step) : low ∈ upL low top step := by
  unfold upL
  rw [dif_pos ⟨h, hs⟩]
  exact List.mem_cons_self
theorem upL_lt (low top step : Nat) : ∀ n ∈ upL low top step, n < top + 1 := fun n hn => by
  have := (upL_mem _ low top step n (Nat.le_refl _) hn).2
  omega
theorem stepN_bit (low top : Nat) (wk : Bool) (step k : Nat) : (stepN low top wk step).testBit k = true ↔ ∃ n ∈ upL low top step, foldS wk n = k := by
  unfold stepN
  rw [orL_bit]
  simp
theorem stepN_lt (low top : Nat) (wk : Bool) (step : Nat) (ht : top < 64) : stepN low top wk step < 2 ^ 64 := by
  refine orL_lt _ 0 64 (fun n hn => ?_) (by decide)
  obtain ⟨m, hm, rfl⟩ := List.mem_map.1 hn
  have := upL_lt low top step m hm
  unfold foldS
  split <;> omega
/-- what is shown is read as the set -/
theorem shown_back {low high : Nat} {wk : Bool} {set : Nat} {special any : Bool} {l : List PK} (h : shownK low high wk set special any = some l) (hset : set < 2 ^ 64) (hh : high < 63) (hlh : low ≤ high) (hwk : wk = true → low = 0 ∧ high = 6) : foldW wk (orBits low (topOf high wk) l 0) = set := by
  have hall : allN low high < 2 ^ 64 := orL_lt _ 0 64 (fun n hn => by have := upL_lt low high 1 n hn; omega) (by decide)
  have allbit : ∀ k, (allN low high).testBit k = true ↔ low ≤ k ∧ k ≤ high := fun k => by
    unfold allN
    rw [orL_bit]
    simp [upL_one _ low high k (Nat.le_refl _)]
  unfold shownK at h
  split at h
  · cases h
  rename_i h1
  have h1b : subN set (allN low high) = 0 := by
    rcases Nat.eq_zero_or_pos (subN set (allN low high)) with hz | hz
    · exact hz
    · exact absurd (.inr (by omega)) h1
  have hsub : ∀ k, set.testBit k = true → low ≤ k ∧ k ≤ high := fun k hk => (allbit k).1 (subN_zero hset hall h1b k hk)
  have nofold : ∀ b, b = set → foldW wk b = set := fun b hb => by
    subst hb
    unfold foldW
    split
    · rename_i hw
      have := hsub 7 hw.2
      have := (hwk hw.1).2
      omega
    · rfl
  split at h
  · rename_i h2
    have hl : [PK.star] = l := by simpa using h
    subst hl
    show foldW wk (0 ||| pkBits low (topOf high wk) .star) = set
    rw [h2.1]
    apply Nat.eq_of_testBit_eq
    intro k
    rw [Bool.eq_iff_iff, allbit k]
    have hb : ∀ k, (0 ||| pkBits low (topOf high wk) .star).testBit k = true ↔ low ≤ k ∧ k ≤ topOf high wk := fun k => by
      rw [Nat.zero_or]
      show (orL 0 (upL low (topOf high wk) 1)).testBit k = true ↔ _
      rw [orL_bit]
      simp [upL_one _ low (topOf high wk) k (Nat.le_refl _)]
    cases wk with
    | false =>
      unfold foldW
      rw [if_neg (by simp), hb k]
      rfl
    | true =>
      obtain ⟨rfl, rfl⟩ := hwk rfl
      unfold foldW
      rw [if_pos ⟨rfl, (hb 7).2 ⟨by decide, by decide⟩⟩, Nat.testBit_or, Nat.testBit_and, show (127 : Nat) = 2 ^ 7 - 1 by decide, Nat.testBit_two_pow_sub_one, show (1 : Nat) = 2 ^ 0 by decide, Nat.testBit_two_pow]
      simp only [Bool.or_eq_true, Bool.and_eq_true, decide_eq_true_eq, hb k]
      show (0 ≤ k ∧ k ≤ 7) ∧ k < 7 ∨ 0 = k ↔ _
      omega
  · split at h
    · have hl : listK set = l := by simpa using h
      subst hl
      refine nofold _ ?_
      unfold listK
      rw [orBits_list, parts_back set hset]
    · rename_i h2 h3
      cases ht : tryBy low (topOf high wk) wk set 99 1 with
      | none => rw [ht] at h; cases h
      | some n =>
        rw [ht] at h
        have hl : PK.starBy n :: listK (subN set (stepN low (topOf high wk) wk n)) = l := by simpa using h
        subst hl
        obtain ⟨hn1, hn2, hn3⟩ := tryBy_some ht
        have htop : topOf high wk < 64 := by unfold topOf; split <;> omega
        have hs := stepN_lt low (topOf high wk) wk n htop
        have hsteps : ∀ k, (stepN low (topOf high wk) wk n).testBit k = true → set.testBit k = true := fun k hk => subN_zero hs hset hn3 k hk
        have hrest : subN set (stepN low (topOf high wk) wk n) < 2 ^ 64 := Nat.lt_of_le_of_lt Nat.and_le_left hset
        have hO : orBits low (topOf high wk) (PK.starBy n :: listK (subN set (stepN low (topOf high wk) wk n))) 0 = orL 0 (upL low (topOf high wk) n) ||| subN set (stepN low (topOf high wk) wk n) := by
          show orBits low (topOf high wk) (listK _) (0 ||| pkBits low (topOf high wk) (.starBy n)) = _
          unfold listK
          rw [orBits_list, Nat.zero_or]
          show bitsOf _ (orL 0 (upL low (topOf high wk) n)) = _
          apply Nat.eq_of_testBit_eq
          intro k
          have hb := bitsOf_bit (partsL (subN set (stepN low (topOf high wk) wk n)) 64 0) (orL 0 (upL low (topOf high wk) n)) k
          have hb0 := bitsOf_bit (partsL (subN set (stepN low (topOf high wk) wk n)) 64 0) 0 k
          rw [parts_back _ hrest] at hb0
          rw [Bool.eq_iff_iff, hb, Nat.testBit_or, Bool.or_eq_true, hb0]
          simp
        rw [hO]
        apply Nat.eq_of_testBit_eq
        intro k
        have hOb : ∀ k, (orL 0 (upL low (topOf high wk) n)).testBit k = true ↔ k ∈ upL low (topOf high wk) n := fun k => by rw [orL_bit]; simp
        have hsb := fun k => stepN_bit low (topOf high wk) wk n k
        have hrb := fun k => subN_bit set (stepN low (topOf high wk) wk n) k hset hs
        rw [Bool.eq_iff_iff]
        cases wk with
        | false =>
          have hsame : ∀ k, (orL 0 (upL low (topOf high false) n)).testBit k = true ↔ (stepN low (topOf high false) false n).testBit k = true := fun k => by
            rw [hOb, hsb]
            simp [foldS]
          unfold foldW
          rw [if_neg (by simp), Nat.testBit_or, Bool.or_eq_true, hsame k, hrb k]
          have := hsteps k
          cases hk1 : (stepN low (topOf high false) false n).testBit k <;> cases hk2 : set.testBit k <;> simp_all
        | true =>
          obtain ⟨rfl, rfl⟩ := hwk rfl
          have h0 : 0 ∈ upL 0 (topOf 6 true) n := upL_head 0 7 n (by decide) (by omega)
          have hs7 : set.testBit 7 = false := by
            cases hc : set.testBit 7 with
            | false => rfl
            | true => have := hsub 7 hc; omega
          have hsame : ∀ k, (stepN 0 (topOf 6 true) true n).testBit k = true ↔ (k ≠ 7 ∧ (orL 0 (upL 0 (topOf 6 true) n)).testBit k = true) := fun k => by
            rw [hOb, hsb]
            constructor
            · rintro ⟨m, hm, rfl⟩
              unfold foldS
              split
              · exact ⟨by decide, h0⟩
              · rename_i hc
                exact ⟨fun e => hc ⟨rfl, e⟩, hm⟩
            · rintro ⟨h7, hk⟩
              exact ⟨k, hk, by unfold foldS; rw [if_neg (fun e => h7 e.2)]⟩
          have hO0 : (orL 0 (upL 0 (topOf 6 true) n)).testBit 0 = true := (hOb 0).2 h0
          have hset0 : set.testBit 0 = true := hsteps 0 ((hsame 0).2 ⟨by decide, hO0⟩)
          have hlt : ∀ k, 7 < k → (orL 0 (upL 0 (topOf 6 true) n)).testBit k = false := fun k hk => by
            cases hc : (orL 0 (upL 0 (topOf 6 true) n)).testBit k with
            | false => rfl
            | true =>
              have : k ≤ 7 := (upL_mem _ 0 7 n k (Nat.le_refl _) ((hOb k).1 hc)).2
              omega
          have hsk := hsteps k
          have hsm := hsame k
          have hrk := hrb k
          have hr7 := hrb 7
          have hsub' : set.testBit k = true → k < 7 := fun hc => by have := hsub k hc; omega
          unfold foldW
          split
          · rw [Nat.testBit_or, Nat.testBit_and, Nat.testBit_or, show (127 : Nat) = 2 ^ 7 - 1 by decide, Nat.testBit_two_pow_sub_one, show (1 : Nat) = 2 ^ 0 by decide, Nat.testBit_two_pow, hrk]
            simp only [Bool.or_eq_true, Bool.and_eq_true, decide_eq_true_eq]
            by_cases hk0 : 0 = k
            · subst hk0; simp [hset0]
            · constructor
              · rintro (⟨h4 | h4, h5⟩ | h4)
                · exact hsk (hsm.2 ⟨by omega, h4⟩)
                · exact h4.1
                · exact absurd h4 hk0
              · intro hc
                refine .inl ⟨?_, hsub' hc⟩
                cases hst : (stepN 0 (topOf 6 true) true n).testBit k with
                | true => exact .inl (hsm.1 hst).2
                | false => exact .inr ⟨hc, by simp⟩
          · rename_i hnb
            rw [Nat.testBit_or, hrk, Bool.or_eq_true, Bool.and_eq_true]
            have hO7 : (orL 0 (upL 0 (topOf 6 true) n)).testBit 7 = false := by
              cases hc : (orL 0 (upL 0 (topOf 6 true) n)).testBit 7 with
              | false => rfl
              | true => exact absurd ⟨rfl, by rw [Nat.testBit_or, hc]; rfl⟩ hnb
            constructor
            · rintro (h4 | h4)
              · refine hsk (hsm.2 ⟨fun e => ?_, h4⟩)
                subst e
                rw [hO7] at h4; cases h4
              · exact h4.1
            · intro hc
              cases hst : (stepN 0 (topOf 6 true) true n).testBit k with
              | true => exact .inl (hsm.1 hst).2
              | false => exact .inr ⟨hc, by simp⟩

end Go.Proofs.YtlhaidibcocooaaGreatDoor
