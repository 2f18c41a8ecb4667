/- TopJoined, plain: texts as numbers in the texts' order; texts of lines; how many pairs of lines have one key. -/
import Derived.Test.YtppnhdcnjbjibaaGreatDoorTimesP
namespace Go.Proofs.YtppnhdcnjbjibaaGreatDoor

/-- a text as a number: so many bytes are looked at -/
def num : Nat → List UInt8 → Nat
  | 0, _ => 0
  | _ + 1, [] => 0
  | n + 1, c :: r => (c.toNat + 1) * 257 ^ n + num n r
theorem num_lt : ∀ (n : Nat) (l : List UInt8), num n l < 257 ^ n
  | 0, _ => by simp [num]
  | n + 1, [] => by rw [num]; exact Nat.pow_pos (by decide)
  | n + 1, c :: r => by
    have h := num_lt n r
    have hc : c.toNat < 256 := c.toNat_lt
    have h2 : (c.toNat + 1) * 257 ^ n ≤ 256 * 257 ^ n := Nat.mul_le_mul_right _ (by omega)
    rw [num, Nat.pow_succ]
    omega
theorem num_less : ∀ (n : Nat) (a b : List UInt8), a.length ≤ n → b.length ≤ n → (num n a < num n b ↔ Op.bytesLess a b = true)
  | 0, [], [], _, _ => by simp [num, Op.bytesLess]
  | 0, _ :: _, _, h, _ => by simp at h
  | 0, [], _ :: _, _, h => by simp at h
  | n + 1, [], [], _, _ => by simp [num, Op.bytesLess]
  | n + 1, [], d :: s, _, _ => by
    have hp : 0 < 257 ^ n := Nat.pow_pos (by decide)
    have h2 : 1 * 257 ^ n ≤ (d.toNat + 1) * 257 ^ n := Nat.mul_le_mul_right _ (by omega)
    simp only [num, Op.bytesLess, iff_true]
    omega
  | n + 1, c :: r, [], _, _ => by
    simp only [num, Op.bytesLess]
    simp
  | n + 1, c :: r, d :: s, hr, hs => by
    have ih := num_less n r s (by simpa using hr) (by simpa using hs)
    have h1 := num_lt n r
    have h2 := num_lt n s
    simp only [num, Op.bytesLess, Bool.or_eq_true, decide_eq_true_eq, Bool.and_eq_true, beq_iff_eq, UInt8.lt_iff_toNat_lt]
    rcases Nat.lt_trichotomy c.toNat d.toNat with h | h | h
    · have h3 : (c.toNat + 1 + 1) * 257 ^ n ≤ (d.toNat + 1) * 257 ^ n := Nat.mul_le_mul_right _ (by omega)
      rw [Nat.succ_mul] at h3
      exact ⟨fun _ => .inl h, fun _ => by omega⟩
    · have hcd : c = d := UInt8.toNat_inj.1 h
      subst hcd
      rw [← ih]
      constructor
      · intro h3; exact .inr ⟨rfl, by omega⟩
      · rintro (h3 | ⟨_, h3⟩)
        · omega
        · omega
    · have h3 : (d.toNat + 1 + 1) * 257 ^ n ≤ (c.toNat + 1) * 257 ^ n := Nat.mul_le_mul_right _ (by omega)
      rw [Nat.succ_mul] at h3
      have hne : c ≠ d := fun e => by rw [e] at h; omega
      refine ⟨fun h4 => by omega, fun h4 => ?_⟩
      rcases h4 with h4 | ⟨h4, _⟩
      · omega
      · exact absurd h4 hne
theorem num_inj : ∀ (n : Nat) (a b : List UInt8), a.length ≤ n → b.length ≤ n → num n a = num n b → a = b
  | 0, [], [], _, _, _ => rfl
  | 0, _ :: _, _, h, _, _ => by simp at h
  | 0, [], _ :: _, _, h, _ => by simp at h
  | n + 1, [], [], _, _, _ => rfl
  | n + 1, [], d :: s, _, _, h => by
    have hp : 0 < 257 ^ n := Nat.pow_pos (by decide)
    have h2 : 1 * 257 ^ n ≤ (d.toNat + 1) * 257 ^ n := Nat.mul_le_mul_right _ (by omega)
    simp only [num] at h
    omega
  | n + 1, c :: r, [], _, _, h => by
    have hp : 0 < 257 ^ n := Nat.pow_pos (by decide)
    have h2 : 1 * 257 ^ n ≤ (c.toNat + 1) * 257 ^ n := Nat.mul_le_mul_right _ (by omega)
    simp only [num] at h
    omega
  | n + 1, c :: r, d :: s, hr, hs, h => by
    have h1 := num_lt n r
    have h2 := num_lt n s
    simp only [num] at h
    rcases Nat.lt_trichotomy c.toNat d.toNat with h0 | h0 | h0
    · have h3 : (c.toNat + 1 + 1) * 257 ^ n ≤ (d.toNat + 1) * 257 ^ n := Nat.mul_le_mul_right _ (by omega)
      rw [Nat.succ_mul] at h3
      omega
    · have hcd : c = d := UInt8.toNat_inj.1 h0
      subst hcd
      rw [num_inj n r s (by simpa using hr) (by simpa using hs) (by omega)]
    · have h3 : (d.toNat + 1 + 1) * 257 ^ n ≤ (c.toNat + 1) * 257 ^ n := Nat.mul_le_mul_right _ (by omega)
      rw [Nat.succ_mul] at h3
      omega
/-- two texts, the first one first, as one number -/
def num2 (n : Nat) (f l : List UInt8) : Int := ((num n f * 257 ^ n + num n l : Nat) : Int)
theorem num2_less (n : Nat) (f g a b : List UInt8) (hf : f.length ≤ n) (hg : g.length ≤ n) (ha : a.length ≤ n) (hb : b.length ≤ n) :
    num2 n f a < num2 n g b ↔ (Op.bytesLess f g = true ∨ (f = g ∧ Op.bytesLess a b = true)) := by
  have h1 := num_lt n a
  have h2 := num_lt n b
  unfold num2
  rw [← num_less n f g hf hg, ← num_less n a b ha hb, Int.ofNat_lt]
  rcases Nat.lt_trichotomy (num n f) (num n g) with h | h | h
  · have h3 : (num n f + 1) * 257 ^ n ≤ num n g * 257 ^ n := Nat.mul_le_mul_right _ h
    rw [Nat.succ_mul] at h3
    exact ⟨fun _ => .inl h, fun _ => by omega⟩
  · have he := num_inj n f g hf hg h
    subst he
    constructor
    · intro h3; exact .inr ⟨rfl, by omega⟩
    · rintro (h3 | ⟨_, h3⟩) <;> omega
  · have h3 : (num n g + 1) * 257 ^ n ≤ num n f * 257 ^ n := Nat.mul_le_mul_right _ h
    rw [Nat.succ_mul] at h3
    exact ⟨fun h4 => by omega, fun h4 => by rcases h4 with h4 | ⟨rfl, _⟩ <;> omega⟩
/-- a text of lines -/
def txtL (L : List (List UInt8)) : List UInt8 := L.flatMap fun x => x ++ [10]
theorem txtL_join : ∀ (L : List (List UInt8)), L ≠ [] → txtL L = Lib.join L [10] ++ [10]
  | [], h => absurd rfl h
  | [x], _ => by rw [Lib.join_one]; simp [txtL]
  | x :: y :: t, _ => by
    rw [join_two, show txtL (x :: y :: t) = x ++ [10] ++ txtL (y :: t) by simp [txtL], txtL_join (y :: t) (by simp)]
    simp
theorem txtL_snoc (L : List (List UInt8)) (x : List UInt8) : txtL (L ++ [x]) = txtL L ++ (x ++ [10]) := by simp [txtL]
theorem txtL_len : ∀ (L : List (List UInt8)) (m : Nat), (∀ x ∈ L, x.length ≤ m) → (txtL L).length ≤ L.length * (m + 1)
  | [], m, _ => by simp [txtL]
  | x :: t, m, h => by
    have h1 := h x List.mem_cons_self
    have h2 := txtL_len t m (fun y hy => h y (List.mem_cons_of_mem _ hy))
    have e : (txtL (x :: t)).length = x.length + 1 + (txtL t).length := by simp [txtL]; omega
    rw [e, List.length_cons, Nat.succ_mul]
    omega
theorem txtL_count : ∀ (L : List (List UInt8)), (∀ x ∈ L, (10 : UInt8) ∉ x) → (txtL L).count 10 = L.length
  | [], _ => rfl
  | x :: t, h => by
    have h1 := h x List.mem_cons_self
    have h2 := txtL_count t (fun y hy => h y (List.mem_cons_of_mem _ hy))
    rw [show txtL (x :: t) = x ++ [10] ++ txtL t by simp [txtL], List.count_append, List.count_append, List.count_eq_zero_of_not_mem h1, h2]
    simp
    omega
/-- how many pairs of a list are equal -/
def pairsOf (K : List (List UInt8)) : Nat := (K.map fun k => K.count k).sum
theorem pairs_perm {K K' : List (List UInt8)} (h : K.Perm K') : pairsOf K = pairsOf K' := by
  unfold pairsOf
  rw [show (fun k => K.count k) = fun k => K'.count k from funext fun k => h.count_eq k]
  exact (h.map _).sum_nat
theorem sum_const {α : Type} (f : α → Nat) (m : Nat) : ∀ (l : List α), (∀ x ∈ l, f x = m) → (l.map f).sum = l.length * m
  | [], _ => by simp
  | x :: t, h => by
    rw [List.map_cons, List.sum_cons, h x List.mem_cons_self, sum_const f m t (fun y hy => h y (List.mem_cons_of_mem _ hy)), List.length_cons, Nat.succ_mul]
    omega
theorem pairs_group (k : List UInt8) (m : Nat) (R : List (List UInt8)) (hR : k ∉ R) : pairsOf (List.replicate m k ++ R) = m * m + pairsOf R := by
  unfold pairsOf
  rw [List.map_append, List.sum_append, sum_const _ m (List.replicate m k) (fun x hx => ?_), List.length_replicate]
  · congr 2
    refine List.map_congr_left fun r hr => ?_
    have hne : r ≠ k := fun e => hR (e ▸ hr)
    rw [List.count_append, List.count_replicate, if_neg (by simpa using fun e => hne e.symm), Nat.zero_add]
  · rw [List.eq_of_mem_replicate hx, List.count_append, List.count_replicate_self, List.count_eq_zero_of_not_mem hR, Nat.add_zero]
end Go.Proofs.YtppnhdcnjbjibaaGreatDoor
