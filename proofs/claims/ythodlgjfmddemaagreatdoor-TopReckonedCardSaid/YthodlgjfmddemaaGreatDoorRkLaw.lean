/- Numbers by limbs, decimal digits, decimals and their texts, and what TopReckoned says of them: plain. -/
import Derived.Test.YthodlgjfmddemaaGreatDoorBase
namespace Go.Proofs.YthodlgjfmddemaaGreatDoor.Rk

def Bq : Nat := 1000000000
theorem Bq_pos : 0 < Bq := by decide

theorem pow_pos' (i : Nat) : 0 < Bq ^ i := Nat.pow_pos Bq_pos

/-- the value of the first i digits -/
def vl (f : Nat → Nat) : Nat → Nat
  | 0 => 0
  | i + 1 => vl f i + f i * Bq ^ i

theorem vl_succ (f : Nat → Nat) (i : Nat) : vl f (i + 1) = vl f i + f i * Bq ^ i := rfl

theorem vl_congr {f g : Nat → Nat} : ∀ {i : Nat}, (∀ j, j < i → f j = g j) → vl f i = vl g i
  | 0, _ => rfl
  | i + 1, h => by rw [vl_succ, vl_succ, vl_congr (fun j hj => h j (Nat.lt_succ_of_lt hj)), h i (Nat.lt_succ_self i)]

theorem vl_lt {f : Nat → Nat} : ∀ {i : Nat}, (∀ j, j < i → f j < Bq) → vl f i < Bq ^ i
  | 0, _ => by simp [vl]
  | i + 1, h => by
    have h1 := vl_lt (fun j hj => h j (Nat.lt_succ_of_lt hj))
    have h2 := h i (Nat.lt_succ_self i)
    rw [vl_succ, Nat.pow_succ]
    have h3 : f i * Bq ^ i ≤ (Bq - 1) * Bq ^ i := Nat.mul_le_mul_right _ (by omega)
    have h4 : (Bq - 1) * Bq ^ i + Bq ^ i = Bq ^ i * Bq := by
      generalize Bq ^ i = p
      unfold Bq
      omega
    omega

/-- a digit -/
def dg (x j : Nat) : Nat := x / Bq ^ j % Bq
theorem dg_lt (x j : Nat) : dg x j < Bq := Nat.mod_lt _ Bq_pos

theorem mod_step (x i : Nat) : x % Bq ^ (i + 1) = x % Bq ^ i + dg x i * Bq ^ i := by
  unfold dg
  rw [Nat.pow_succ, Nat.mod_mul, Nat.mul_comm (Bq ^ i)]

theorem vl_dg (x : Nat) : ∀ i, vl (dg x) i = x % Bq ^ i
  | 0 => by simp [vl, Nat.mod_one]
  | i + 1 => by rw [vl_succ, vl_dg x i, mod_step]

/-- digits are told by the value -/
theorem dg_of_vl {f : Nat → Nat} {m z : Nat} (h : ∀ j, j < m → f j < Bq) (hz : vl f m = z) : ∀ j, j < m → f j = dg z j := by
  induction m generalizing z with
  | zero => intro j hj; omega
  | succ m ih =>
    have hl := vl_lt (fun j hj => h j (Nat.lt_succ_of_lt hj))
    have hv := h m (Nat.lt_succ_self m)
    rw [vl_succ] at hz
    have hmod : z % Bq ^ m = vl f m := by
      rw [← hz, Nat.add_mul_mod_self_right]
      exact Nat.mod_eq_of_lt hl
    have hdiv : z / Bq ^ m = f m := by
      rw [← hz, Nat.add_mul_div_right _ _ (pow_pos' m), Nat.div_eq_of_lt hl, Nat.zero_add]
    intro j hj
    by_cases e : j = m
    · subst e
      unfold dg
      rw [hdiv, Nat.mod_eq_of_lt hv]
    · have hjm : j < m := by omega
      rw [ih (fun j hj => h j (Nat.lt_succ_of_lt hj)) rfl j hjm]
      unfold dg
      rw [← hmod]
      have e2 : Bq ^ m = Bq ^ j * Bq ^ (m - j) := by rw [← Nat.pow_add]; congr 1; omega
      have e3 : m - j = (m - j - 1) + 1 := by omega
      rw [e2, Nat.mod_mul_right_div_self, e3, Nat.pow_succ, Nat.mod_mul_left_mod]

/-- the number of limbs -/
def nl (x : Nat) : Nat := if h : x = 0 then 0 else nl (x / Bq) + 1
termination_by x
decreasing_by exact Nat.div_lt_self (Nat.pos_of_ne_zero h) (by decide)

theorem nl_zero : nl 0 = 0 := by unfold nl; simp
theorem nl_pos {x : Nat} (h : x ≠ 0) : nl x = nl (x / Bq) + 1 := by
  conv => lhs; unfold nl
  rw [dif_neg h]

theorem lt_pow_iff : ∀ (k x : Nat), x < Bq ^ k ↔ nl x ≤ k
  | 0, x => by
    rw [Nat.pow_zero]
    by_cases h : x = 0
    · subst h; simp [nl_zero]
    · rw [nl_pos h]; omega
  | k + 1, x => by
    by_cases h : x = 0
    · subst h; simp [nl_zero, pow_pos']
    · rw [nl_pos h, Nat.pow_succ, ← Nat.div_lt_iff_lt_mul Bq_pos, lt_pow_iff k]
      omega
theorem lt_nl (x : Nat) : x < Bq ^ nl x := (lt_pow_iff _ _).2 (Nat.le_refl _)
theorem nl_mono {x y : Nat} (h : x ≤ y) : nl x ≤ nl y := (lt_pow_iff _ _).1 (Nat.lt_of_le_of_lt h (lt_nl y))
theorem nl_eq_zero {x : Nat} : nl x = 0 ↔ x = 0 := by
  constructor
  · intro h
    have := lt_nl x
    rw [h] at this
    simpa using this
  · rintro rfl; exact nl_zero
theorem pow_le_of_nl {x k : Nat} (h : k < nl x) : Bq ^ k ≤ x := by
  rcases Nat.lt_or_ge x (Bq ^ k) with h1 | h1
  · have := (lt_pow_iff k x).1 h1; omega
  · exact h1
/-- the first limb is not 0 -/
theorem top_ne {x k : Nat} (h : nl x = k + 1) : dg x k ≠ 0 := by
  unfold dg
  have h1 : Bq ^ k ≤ x := pow_le_of_nl (by omega)
  have h2 : x < Bq ^ (k + 1) := (lt_pow_iff _ _).2 (by omega)
  have h3 : x / Bq ^ k < Bq := by rw [Nat.div_lt_iff_lt_mul (pow_pos' k), Nat.mul_comm, ← Nat.pow_succ]; exact h2
  have h4 : 0 < x / Bq ^ k := Nat.div_pos h1 (pow_pos' k)
  rw [Nat.mod_eq_of_lt h3]
  omega
theorem dg_high {x j : Nat} (h : nl x ≤ j) : dg x j = 0 := by
  unfold dg
  rw [Nat.div_eq_of_lt ((lt_pow_iff _ _).2 h), Nat.zero_mod]
/-- trimming: where the last digit is 0, one less serves -/
theorem trim_step {z m : Nat} (h : z < Bq ^ (m + 1)) (h0 : dg z m = 0) : z < Bq ^ m := by
  have h1 := mod_step z m
  rw [h0, Nat.zero_mul, Nat.add_zero, Nat.mod_eq_of_lt h] at h1
  rw [h1]
  exact Nat.mod_lt _ (pow_pos' m)
theorem nl_of_top {z m : Nat} (h : z < Bq ^ m) (h0 : m = 0 ∨ dg z (m - 1) ≠ 0) : nl z = m := by
  have h1 := (lt_pow_iff _ _).1 h
  rcases h0 with rfl | h0
  · omega
  · rcases Nat.lt_or_ge (nl z) m with h2 | h2
    · exact absurd (dg_high (by omega)) h0
    · omega
theorem mod_full {x m : Nat} (h : nl x ≤ m) : x % Bq ^ m = x := Nat.mod_eq_of_lt ((lt_pow_iff _ _).2 h)

/-- a store -/
def up (g : Nat → Nat) (i c : Nat) : Nat → Nat := fun j => if j = i then c else g j
theorem up_self (g : Nat → Nat) (i c : Nat) : up g i c i = c := by simp [up]
theorem up_ne {g : Nat → Nat} {i c j : Nat} (h : j ≠ i) : up g i c j = g j := by simp [up, h]
theorem vl_up {g : Nat → Nat} {i c k : Nat} (h : k ≤ i) : vl (up g i c) k = vl g k := vl_congr fun j hj => up_ne (by omega)
theorem vl_up_succ {g : Nat → Nat} {i c : Nat} : vl (up g i c) (i + 1) = vl g i + c * Bq ^ i := by rw [vl_succ, vl_up (Nat.le_refl _), up_self]

/-- comparing: the highest different digit tells -/
theorem lt_of_dg {x y i : Nat} (hx : x < Bq ^ (i + 1)) (hy : y < Bq ^ (i + 1)) (h : dg x i < dg y i) : x < y := by
  have h1 := mod_step x i
  have h2 := mod_step y i
  rw [Nat.mod_eq_of_lt hx] at h1
  rw [Nat.mod_eq_of_lt hy] at h2
  have h3 := Nat.mod_lt x (pow_pos' i)
  have h4 : (dg x i + 1) * Bq ^ i ≤ dg y i * Bq ^ i := Nat.mul_le_mul_right _ h
  rw [Nat.add_mul, Nat.one_mul] at h4
  generalize x % Bq ^ i = u at *
  generalize y % Bq ^ i = v at *
  omega

/-- one step of a sum -/
theorem plus_step {x y i c n g : Nat} (hn : n = dg x i + c + dg y i) (hc : g + c * Bq ^ i = x % Bq ^ i + y % Bq ^ i) :
    (g + n % Bq * Bq ^ i) + n / Bq * Bq ^ (i + 1) = x % Bq ^ (i + 1) + y % Bq ^ (i + 1) := by
  rw [mod_step x i, mod_step y i, Nat.pow_succ]
  have h1 : n % Bq * Bq ^ i + n / Bq * (Bq ^ i * Bq) = n * Bq ^ i := by
    rw [Nat.mul_comm (Bq ^ i) Bq, ← Nat.mul_assoc, ← Nat.add_mul, Nat.mul_comm (n / Bq) Bq, Nat.mod_add_div]
  have h2 : n * Bq ^ i = dg x i * Bq ^ i + c * Bq ^ i + dg y i * Bq ^ i := by rw [hn, Nat.add_mul, Nat.add_mul]
  omega

/-- one step of a difference: o is the new digit, b the old borrow, b2 the new one -/
theorem minus_step {x y i b b2 o g : Nat} (hn : o + b + dg y i = dg x i + b2 * Bq) (hb : g + y % Bq ^ i = x % Bq ^ i + b * Bq ^ i) :
    (g + o * Bq ^ i) + y % Bq ^ (i + 1) = x % Bq ^ (i + 1) + b2 * Bq ^ (i + 1) := by
  rw [mod_step x i, mod_step y i, Nat.pow_succ]
  have h1 : (o + b + dg y i) * Bq ^ i = (dg x i + b2 * Bq) * Bq ^ i := by rw [hn]
  rw [Nat.add_mul, Nat.add_mul, Nat.add_mul, Nat.mul_assoc b2, Nat.mul_comm Bq] at h1
  omega
theorem minus_end {x y m b g : Nat} (hx : x < Bq ^ m) (hy : y ≤ x) (hg : g < Bq ^ m) (hb : g + y % Bq ^ m = x % Bq ^ m + b * Bq ^ m) : g = x - y := by
  rw [Nat.mod_eq_of_lt hx, Nat.mod_eq_of_lt (Nat.lt_of_le_of_lt hy hx)] at hb
  cases b with
  | zero => omega
  | succ b =>
    rw [Nat.add_mul, Nat.one_mul] at hb
    generalize b * Bq ^ m = z at hb
    omega

/-- one step of a row of a product -/
theorem times_step {a y i k c n o g V : Nat} (hn : n = a * dg y k + o + c) (hc : g + c * Bq ^ (i + k) = V + a * (y % Bq ^ k) * Bq ^ i) :
    (g + n % Bq * Bq ^ (i + k)) + n / Bq * Bq ^ (i + (k + 1)) = (V + o * Bq ^ (i + k)) + a * (y % Bq ^ (k + 1)) * Bq ^ i := by
  rw [mod_step y k, ← Nat.add_assoc, Nat.pow_succ]
  have h1 : n % Bq * Bq ^ (i + k) + n / Bq * (Bq ^ (i + k) * Bq) = n * Bq ^ (i + k) := by
    rw [Nat.mul_comm (Bq ^ (i + k)) Bq, ← Nat.mul_assoc, ← Nat.add_mul, Nat.mul_comm (n / Bq) Bq, Nat.mod_add_div]
  have h2 : n * Bq ^ (i + k) = a * dg y k * Bq ^ (i + k) + o * Bq ^ (i + k) + c * Bq ^ (i + k) := by rw [hn, Nat.add_mul, Nat.add_mul]
  have h3 : a * (y % Bq ^ k + dg y k * Bq ^ k) * Bq ^ i = a * (y % Bq ^ k) * Bq ^ i + a * dg y k * Bq ^ (i + k) := by
    rw [Nat.mul_add, Nat.add_mul, Nat.pow_add, Nat.mul_comm (Bq ^ i) (Bq ^ k), Nat.mul_assoc a (dg y k * Bq ^ k), Nat.mul_assoc (dg y k), Nat.mul_assoc a (dg y k)]
  rw [h3]
  generalize a * dg y k * Bq ^ (i + k) = p at *
  generalize n % Bq * Bq ^ (i + k) = q at *
  omega
/-- the carry of a product's row -/
theorem times_carry {a b o c : Nat} (ha : a < Bq) (hb : b < Bq) (ho : o < Bq) (hc : c < Bq) : a * b + o + c < Bq * Bq := by
  have h1 : a * b ≤ (Bq - 1) * (Bq - 1) := Nat.mul_le_mul (by omega) (by omega)
  have h2 : (Bq - 1) * (Bq - 1) + (Bq - 1) + (Bq - 1) < Bq * Bq := by decide
  omega
theorem times_row {x y i g V m : Nat} {c : Nat} (hV : V = x % Bq ^ i * y) (hc : g + c * Bq ^ (i + m) = V + dg x i * (y % Bq ^ m) * Bq ^ i) (hy : y < Bq ^ m) :
    g + c * Bq ^ (i + m) = x % Bq ^ (i + 1) * y := by
  rw [hc, hV, mod_step, Nat.mod_eq_of_lt hy, Nat.add_mul, Nat.mul_assoc (dg x i), Nat.mul_assoc (dg x i), Nat.mul_comm y]

/-- one step of a division, from the top: z is what is divided -/
theorem div_step {z d i r : Nat} (hr : r = z / Bq ^ (i + 1) % d) : (r * Bq + dg z i) / d = dg (z / d) i ∧ (r * Bq + dg z i) % d = z / Bq ^ i % d := by
  rcases Nat.eq_zero_or_pos d with rfl | hd
  · constructor
    · simp [dg]
    · rw [Nat.mod_zero] at *
      subst hr
      unfold dg
      rw [Nat.pow_succ, ← Nat.div_div_eq_div_mul, Nat.mul_comm, Nat.div_add_mod, Nat.mod_zero]
  have h1 : z / Bq ^ i = Bq * (z / Bq ^ (i + 1)) + dg z i := by
    unfold dg
    rw [Nat.pow_succ, ← Nat.div_div_eq_div_mul, Nat.div_add_mod]
  have h2 : z / Bq ^ (i + 1) = d * (z / Bq ^ (i + 1) / d) + r := by rw [hr, Nat.div_add_mod]
  have hrd : r < d := by rw [hr]; exact Nat.mod_lt _ hd
  have hg := dg_lt z i
  generalize z / Bq ^ (i + 1) / d = Q at h2
  have h3 : z / Bq ^ i = d * (Bq * Q) + (r * Bq + dg z i) := by
    rw [h1, h2, Nat.mul_add, Nat.add_assoc, ← Nat.mul_assoc, Nat.mul_comm Bq d, Nat.mul_assoc, Nat.mul_comm Bq r]
  have h4 : (r * Bq + dg z i) < d * Bq := by
    have : (r + 1) * Bq ≤ d * Bq := Nat.mul_le_mul_right _ hrd
    rw [Nat.add_mul, Nat.one_mul] at this
    omega
  constructor
  · have h5 : dg (z / d) i = z / Bq ^ i / d % Bq := by
      unfold dg
      rw [Nat.div_div_eq_div_mul, Nat.div_div_eq_div_mul, Nat.mul_comm]
    rw [h5, h3, Nat.mul_add_div hd, Nat.mul_add_mod, Nat.mod_eq_of_lt]
    rw [Nat.div_lt_iff_lt_mul hd, Nat.mul_comm Bq d]
    exact h4
  · rw [h3, Nat.mul_add_mod]

/- Long division: U is what is divided at a place, V the divisor, t, u3 the first digits of U, v1, v2 of V, P the weight of the rest -/
theorem kd_init {U V t u3 v1 v2 P Q ur vr : Nat} (hU : U = t * (Bq * P) + u3 * P + ur) (hV : V = v1 * (Bq * P) + v2 * P + vr) (hu : u3 * P + ur < Bq * P) (hv : 0 < v1) (hQ : Q * V ≤ U) : Q ≤ t / v1 := by
  rw [Nat.le_div_iff_mul_le hv]
  have h1 : Q * (v1 * (Bq * P)) ≤ Q * V := Nat.mul_le_mul_left _ (by omega)
  rw [← Nat.mul_assoc] at h1
  rcases Nat.lt_or_ge t (Q * v1) with h2 | h2
  · have h3 : (t + 1) * (Bq * P) ≤ Q * v1 * (Bq * P) := Nat.mul_le_mul_right _ h2
    rw [Nat.add_mul, Nat.one_mul] at h3
    omega
  · exact h2
theorem kd_step {U V t u3 v1 v2 P q r ur vr : Nat} (hU : U = t * (Bq * P) + u3 * P + ur) (hV : V = v1 * (Bq * P) + v2 * P + vr) (hu : ur < P) (hqr : q * v1 + r = t) (h : r * Bq + u3 < q * v2) : U < q * V := by
  have h1 : q * V = q * v1 * (Bq * P) + q * v2 * P + q * vr := by rw [hV, Nat.mul_add, Nat.mul_add, Nat.mul_assoc, Nat.mul_assoc]
  have h2 : U = q * v1 * (Bq * P) + (r * Bq + u3) * P + ur := by rw [hU, ← hqr, Nat.add_mul, Nat.add_mul, Nat.mul_assoc r]; omega
  have h3 : (r * Bq + u3 + 1) * P ≤ q * v2 * P := Nat.mul_le_mul_right _ h
  rw [Nat.add_mul _ 1, Nat.one_mul] at h3
  omega
theorem kd_end {U V t u3 v1 v2 P q r ur vr : Nat} (hU : U = t * (Bq * P) + u3 * P + ur) (hV : V = v1 * (Bq * P) + v2 * P + vr) (hv : vr < P) (hv2 : v2 < Bq) (h1v : 0 < v1) (hqr : q * v1 + r = t) (hq : q < Bq) (h : Bq ≤ r ∨ q * v2 ≤ r * Bq + u3) : q * V < U + V := by
  have h1 : q * V = q * v1 * (Bq * P) + q * v2 * P + q * vr := by rw [hV, Nat.mul_add, Nat.mul_add, Nat.mul_assoc, Nat.mul_assoc]
  have h2 : U = q * v1 * (Bq * P) + (r * Bq + u3) * P + ur := by rw [hU, ← hqr, Nat.add_mul, Nat.add_mul, Nat.mul_assoc r]; omega
  have hP : 0 < P := by omega
  have hBP : 0 < Bq * P := Nat.mul_pos Bq_pos hP
  have hV1 : Bq * P ≤ v1 * (Bq * P) := Nat.le_mul_of_pos_left _ h1v
  have h4 : v2 * P + vr < Bq * P := by
    have : (v2 + 1) * P ≤ Bq * P := Nat.mul_le_mul_right _ hv2
    rw [Nat.add_mul, Nat.one_mul] at this
    omega
  have h5 : q * (v2 * P + vr) ≤ q * (Bq * P) := Nat.mul_le_mul_left _ (Nat.le_of_lt h4)
  rw [Nat.mul_add, ← Nat.mul_assoc] at h5
  rw [h1]
  rcases h with h | h
  · have h6 : q * (Bq * P) ≤ r * (Bq * P) := Nat.mul_le_mul_right _ (by omega)
    rw [Nat.add_mul, Nat.mul_assoc r] at h2
    omega
  · have h6 : q * v2 * P ≤ (r * Bq + u3) * P := Nat.mul_le_mul_right _ h
    have h7 : q * vr ≤ Bq * vr := Nat.mul_le_mul_right _ (by omega)
    have h8 : Bq * vr < Bq * P := Nat.mul_lt_mul_of_pos_left hv Bq_pos
    omega
/-- the quotient's digit from the guess -/
theorem kd_guess {U V q : Nat} (h1 : U / V ≤ q) (h2 : q * V < U + V) (hV : 0 < V) : q = U / V ∨ (q = U / V + 1 ∧ U < q * V) := by
  have h3 : q ≤ U / V + 1 := by
    rcases Nat.lt_or_ge (U / V + 1) q with h | h
    · have h4 : (U / V + 2) * V ≤ q * V := Nat.mul_le_mul_right _ h
      have h5 := Nat.div_add_mod U V
      have h6 := Nat.mod_lt U hV
      rw [Nat.add_mul, Nat.mul_comm] at h4
      omega
    · exact h
  rcases Nat.lt_or_ge (U / V) q with h | h
  · have e : q = U / V + 1 := by omega
    refine .inr ⟨e, ?_⟩
    rw [e, Nat.add_mul, Nat.one_mul, Nat.mul_comm]
    have h5 := Nat.div_add_mod U V
    have h6 := Nat.mod_lt U hV
    omega
  · exact .inl (by omega)
/-- one step of taking away: o the new digit, b the borrow, b2 the new one -/
theorem red_step {f v i q o b b2 g F : Nat} (hn : o + b + q * dg v i = f + b2 * Bq) (hb : g + q * (v % Bq ^ i) = F + b * Bq ^ i) :
    (g + o * Bq ^ i) + q * (v % Bq ^ (i + 1)) = (F + f * Bq ^ i) + b2 * Bq ^ (i + 1) := by
  rw [mod_step v i, Nat.pow_succ, Nat.mul_add]
  have h1 : (o + b + q * dg v i) * Bq ^ i = (f + b2 * Bq) * Bq ^ i := by rw [hn]
  rw [Nat.add_mul, Nat.add_mul, Nat.add_mul, Nat.mul_assoc b2, Nat.mul_comm Bq, Nat.mul_assoc q] at h1
  omega
theorem red_exact {U V q g b m : Nat} (hg : g < Bq ^ m) (_hU : U < Bq ^ m) (hV : V < Bq ^ m) (h : g + q * V = U + b * Bq ^ m) (hq : q = U / V ∨ (q = U / V + 1 ∧ U < q * V)) (hV0 : 0 < V) :
    (b = 0 ∧ q = U / V ∧ g = U % V) ∨ (b ≠ 0 ∧ q - 1 = U / V ∧ ∀ c g2, g2 < Bq ^ m → g2 + c * Bq ^ m = g + V → g2 = U % V) := by
  have h5 := Nat.div_add_mod U V
  have h6 := Nat.mod_lt U hV0
  rcases hq with rfl | ⟨rfl, hlt⟩
  · rw [Nat.mul_comm V] at h5
    have hb : b = 0 := by
      cases b with
      | zero => rfl
      | succ b =>
        rw [Nat.add_mul, Nat.one_mul] at h
        generalize b * Bq ^ m = z at h
        omega
    subst hb
    exact .inl ⟨rfl, rfl, by omega⟩
  · rw [Nat.mul_comm V] at h5
    rw [Nat.add_mul, Nat.one_mul] at h hlt
    refine .inr ⟨?_, Nat.add_sub_cancel _ _, fun c g2 h2 h3 => ?_⟩
    · rintro rfl
      omega
    · have hb : b = 1 := by
        rcases b with _ | _ | b
        · omega
        · rfl
        · rw [Nat.add_mul, Nat.add_mul, Nat.one_mul] at h
          generalize b * Bq ^ m = z at h
          omega
      subst hb
      rw [Nat.one_mul] at h
      rcases c with _ | _ | c
      · omega
      · omega
      · rw [Nat.add_mul, Nat.add_mul, Nat.one_mul] at h3
        generalize c * Bq ^ m = z at h3
        omega
/-- one step of adding back -/
theorem back_step {f v i c n g F : Nat} (hn : n = f + c + dg v i) (hc : g + c * Bq ^ i = F + v % Bq ^ i) :
    (g + n % Bq * Bq ^ i) + n / Bq * Bq ^ (i + 1) = (F + f * Bq ^ i) + v % Bq ^ (i + 1) := by
  rw [mod_step v i, Nat.pow_succ]
  have h1 : n % Bq * Bq ^ i + n / Bq * (Bq ^ i * Bq) = n * Bq ^ i := by
    rw [Nat.mul_comm (Bq ^ i) Bq, ← Nat.mul_assoc, ← Nat.add_mul, Nat.mul_comm (n / Bq) Bq, Nat.mod_add_div]
  have h2 : n * Bq ^ i = f * Bq ^ i + c * Bq ^ i + dg v i * Bq ^ i := by rw [hn, Nat.add_mul, Nat.add_mul]
  omega
/-- the factor leaves the length -/
theorem factor_nl {y n f : Nat} (hn : nl y = n + 1) (hf : f = Bq / (dg y n + 1)) : 0 < f ∧ f < Bq ∧ nl (y * f) = n + 1 ∧ f * Bq ^ n ≤ y * f := by
  have h0 : dg y n ≠ 0 := top_ne hn
  have h1 := dg_lt y n
  have hf1 : 0 < f := by rw [hf]; exact Nat.div_pos (by omega) (by omega)
  have hfb : f * (dg y n + 1) ≤ Bq := by rw [hf]; exact Nat.div_mul_le_self _ _
  have hf2 : f < Bq := by
    have : f * 2 ≤ f * (dg y n + 1) := Nat.mul_le_mul_left _ (by omega)
    omega
  have hy : y < (dg y n + 1) * Bq ^ n := by
    have h2 := mod_step y n
    rw [mod_full (by omega)] at h2
    have h3 := Nat.mod_lt y (pow_pos' n)
    rw [Nat.add_mul, Nat.one_mul]
    omega
  have hlow : Bq ^ n ≤ y := pow_le_of_nl (by omega)
  have hup : y * f < Bq ^ (n + 1) := by
    have h4 : y * f < (dg y n + 1) * Bq ^ n * f := Nat.mul_lt_mul_of_pos_right hy hf1
    have h5 : (dg y n + 1) * Bq ^ n * f ≤ Bq ^ (n + 1) := by
      rw [Nat.mul_comm, ← Nat.mul_assoc, Nat.pow_succ, Nat.mul_comm (Bq ^ n)]
      exact Nat.mul_le_mul_right _ hfb
    omega
  refine ⟨hf1, hf2, ?_, ?_⟩
  · have h6 := (lt_pow_iff _ _).1 hup
    have h7 : nl y ≤ nl (y * f) := nl_mono (Nat.le_mul_of_pos_right _ hf1)
    omega
  · rw [Nat.mul_comm y]
    exact Nat.mul_le_mul_left _ hlow
/-- the first window is less than the divisor -/
theorem first_window {x y n f m : Nat} (hf : f * Bq ^ n ≤ y * f) (hf0 : 0 < f) (hx : nl x ≤ m) (hm : n + 1 ≤ m + 1) : x * f / Bq ^ (m + 1 - (n + 1)) < y * f := by
  have hx1 : x < Bq ^ m := (lt_pow_iff _ _).2 hx
  refine Nat.lt_of_lt_of_le ?_ hf
  rw [Nat.div_lt_iff_lt_mul (pow_pos' _), Nat.mul_assoc, ← Nat.pow_add, show n + (m + 1 - (n + 1)) = m by omega, Nat.mul_comm f]
  exact Nat.mul_lt_mul_of_pos_right hx1 hf0
theorem mul_div_same {x y f : Nat} (h : 0 < f) : x * f / (y * f) = x / y := Nat.mul_div_mul_right _ _ h
theorem mul_mod_same {x y f : Nat} (h : 0 < f) : x * f % (y * f) / f = x % y := by rw [Nat.mul_mod_mul_right, Nat.mul_div_cancel _ h]
/-- Newton's step: where it does not go down, the root is not too great -/
theorem newton_end {x r : Nat} (h : r ≤ (r + x / r) / 2) : r * r ≤ x := by
  have h1 : r ≤ x / r := by omega
  calc r * r ≤ r * (x / r) := Nat.mul_le_mul_left _ h1
    _ ≤ x := Nat.mul_div_le x r
theorem newton_pos {x r : Nat} (hx : 0 < x) (hr : 0 < r) : 0 < (r + x / r) / 2 := by
  by_cases h : r = 1
  · subst h; rw [Nat.div_one]; omega
  · generalize x / r = q
    omega

/-- the digits of a number; none for 0 -/
def digs (x : Nat) : List UInt8 := if _h : x = 0 then [] else digs (x / 10) ++ [UInt8.ofNat (48 + x % 10)]
termination_by x
decreasing_by exact Nat.div_lt_self (Nat.pos_of_ne_zero _h) (by decide)
theorem digs_zero : digs 0 = [] := by unfold digs; simp
theorem digs_pos {x : Nat} (h : x ≠ 0) : digs x = digs (x / 10) ++ [UInt8.ofNat (48 + x % 10)] := by
  conv => lhs; unfold digs
  rw [dif_neg h]
/-- k digits of a number -/
def padd : Nat → Nat → List UInt8
  | 0, _ => []
  | k + 1, x => padd k (x / 10) ++ [UInt8.ofNat (48 + x % 10)]
theorem padd_len : ∀ k x, (padd k x).length = k
  | 0, _ => rfl
  | k + 1, x => by simp [padd, padd_len k]
def isDig (l : List UInt8) : Prop := ∀ c ∈ l, 48 ≤ c.toNat ∧ c.toNat ≤ 57
theorem dig_ofNat (x : Nat) : (UInt8.ofNat (48 + x % 10)).toNat = 48 + x % 10 := by
  have := Nat.mod_lt x (show 0 < 10 by decide)
  rw [UInt8.toNat_ofNat']
  omega
def nval (l : List UInt8) : Nat := l.foldl (fun a c => a * 10 + (c.toNat - 48)) 0
theorem nval_snoc (l : List UInt8) (c : UInt8) : nval (l ++ [c]) = nval l * 10 + (c.toNat - 48) := by simp [nval, List.foldl_append]
theorem nval_nil : nval [] = 0 := rfl
theorem snoc_cases (l : List UInt8) : l = [] ∨ ∃ m c, l = m ++ [c] := by
  rcases List.eq_nil_or_concat l with h | ⟨m, c, h⟩
  · exact .inl h
  · exact .inr ⟨m, c, by rw [h, List.concat_eq_append]⟩
theorem snoc_ind {P : List UInt8 → Prop} (h0 : P []) (h1 : ∀ l c, P l → P (l ++ [c])) (l : List UInt8) : P l := by
  have : ∀ n (l : List UInt8), l.length = n → P l := by
    intro n
    induction n with
    | zero => intro l hl; rw [List.length_eq_zero_iff.1 hl]; exact h0
    | succ n ih =>
      intro l hl
      rcases snoc_cases l with rfl | ⟨m, c, rfl⟩
      · exact h0
      · exact h1 m c (ih m (by simpa using hl))
  exact this _ l rfl
theorem nval_append (l m : List UInt8) : nval (l ++ m) = nval l * 10 ^ m.length + nval m := by
  refine snoc_ind (P := fun m => nval (l ++ m) = nval l * 10 ^ m.length + nval m) ?_ (fun m c ih => ?_) m
  · simp [nval_nil]
  · rw [← List.append_assoc, nval_snoc, ih, nval_snoc, List.length_append, List.length_singleton, Nat.pow_succ, Nat.add_mul, Nat.mul_assoc]
    omega
theorem nval_lt {l : List UInt8} (h : isDig l) : nval l < 10 ^ l.length := by
  revert h
  refine snoc_ind (P := fun l => isDig l → nval l < 10 ^ l.length) (fun _ => by decide) (fun m c ih h => ?_) l
  have h1 := ih (fun d hd => h d (List.mem_append_left _ hd))
  have h2 := h c (List.mem_append_right _ (List.mem_singleton.2 rfl))
  rw [nval_snoc, List.length_append, List.length_singleton, Nat.pow_succ]
  generalize 10 ^ m.length = p at *
  omega
theorem nval_digs (x : Nat) : nval (digs x) = x := by
  induction x using Nat.strongRecOn with
  | ind x ih =>
    by_cases h : x = 0
    · subst h; rw [digs_zero]; rfl
    · rw [digs_pos h, nval_snoc, ih (x / 10) (Nat.div_lt_self (Nat.pos_of_ne_zero h) (by decide)), dig_ofNat]
      omega
theorem digs_dig (x : Nat) : isDig (digs x) := by
  induction x using Nat.strongRecOn with
  | ind x ih =>
    by_cases h : x = 0
    · subst h; rw [digs_zero]; intro c hc; cases hc
    · rw [digs_pos h]
      intro c hc
      rcases List.mem_append.1 hc with hc | hc
      · exact ih (x / 10) (Nat.div_lt_self (Nat.pos_of_ne_zero h) (by decide)) c hc
      · rw [List.mem_singleton.1 hc, dig_ofNat]
        have := Nat.mod_lt x (show 0 < 10 by decide)
        omega
theorem padd_dig : ∀ k x, isDig (padd k x)
  | 0, _ => fun c hc => by cases hc
  | k + 1, x => fun c hc => by
    rcases List.mem_append.1 hc with hc | hc
    · exact padd_dig k _ c hc
    · rw [List.mem_singleton.1 hc, dig_ofNat]
      have := Nat.mod_lt x (show 0 < 10 by decide)
      omega
theorem digs_head {x : Nat} : ∀ c, (digs x).head? = some c → c.toNat ≠ 48 := by
  induction x using Nat.strongRecOn with
  | ind x ih =>
    intro c hc
    by_cases h : x = 0
    · subst h; rw [digs_zero] at hc; cases hc
    · rw [digs_pos h] at hc
      by_cases h1 : x / 10 = 0
      · rw [h1, digs_zero] at hc
        injection hc with hc
        rw [← hc, dig_ofNat]
        omega
      · have hne : digs (x / 10) ≠ [] := by
          intro e
          have := nval_digs (x / 10)
          rw [e] at this
          exact h1 this.symm
        obtain ⟨e, t, he⟩ := List.exists_cons_of_ne_nil hne
        rw [he] at hc
        have hc : (digs (x / 10)).head? = some c := by rw [he]; exact hc
        exact ih _ (Nat.div_lt_self (Nat.pos_of_ne_zero h) (by decide)) c hc
theorem digs_len (k : Nat) : ∀ x, x < 10 ^ k ↔ (digs x).length ≤ k := by
  induction k with
  | zero =>
    intro x
    by_cases h : x = 0
    · subst h; simp [digs_zero]
    · rw [digs_pos h, List.length_append, List.length_singleton]; simp; omega
  | succ k ih =>
    intro x
    by_cases h : x = 0
    · subst h; simp [digs_zero, Nat.pow_pos]
    · rw [digs_pos h, List.length_append, List.length_singleton, Nat.pow_succ, ← Nat.div_lt_iff_lt_mul (by decide), ih]
      omega
theorem digs_ne {x : Nat} (h : x ≠ 0) : 0 < (digs x).length := by rw [digs_pos h, List.length_append, List.length_singleton]; omega
theorem digs_padd {k : Nat} : ∀ {x : Nat}, x / 10 ^ k ≠ 0 → digs x = digs (x / 10 ^ k) ++ padd k x := by
  induction k with
  | zero => intro x _; simp [padd]
  | succ k ih =>
    intro x h
    have hx : x ≠ 0 := by rintro rfl; simp at h
    have h10 : x / 10 ^ (k + 1) = x / 10 / 10 ^ k := by rw [Nat.pow_succ, Nat.mul_comm, Nat.div_div_eq_div_mul]
    rw [h10] at h ⊢
    rw [digs_pos hx, ih h, List.append_assoc]
    rfl
theorem padd_short {k : Nat} : ∀ {x : Nat}, x < 10 ^ k → padd k x = List.replicate (k - (digs x).length) 48 ++ digs x := by
  induction k with
  | zero =>
    intro x h
    obtain rfl : x = 0 := by simpa using h
    simp [padd, digs_zero]
  | succ k ih =>
    intro x h
    have h1 : x / 10 < 10 ^ k := by rw [Nat.div_lt_iff_lt_mul (by decide), ← Nat.pow_succ]; exact h
    show padd k (x / 10) ++ [UInt8.ofNat (48 + x % 10)] = _
    rw [ih h1]
    by_cases hx : x = 0
    · subst hx
      rw [Nat.zero_div, digs_zero]
      simp [List.replicate_succ']
    · rw [digs_pos hx, List.length_append, List.length_singleton, List.append_assoc]
      congr 2
      omega
theorem nval_padd : ∀ k x, nval (padd k x) = x % 10 ^ k
  | 0, x => by simp [padd, nval_nil, Nat.mod_one]
  | k + 1, x => by
    show nval (padd k (x / 10) ++ [UInt8.ofNat (48 + x % 10)]) = _
    rw [nval_snoc, nval_padd k, dig_ofNat, Nat.pow_succ, Nat.mul_comm (10 ^ k) 10, Nat.mod_mul]
    omega
theorem nval_zeros (k : Nat) : nval (List.replicate k 48) = 0 := by
  induction k with
  | zero => rfl
  | succ k ih => rw [List.replicate_succ', nval_snoc, ih]; rfl

/-- a decimal -/
structure Dec where
  below : Bool
  n : Nat
  scale : Nat
def Dec.clean (d : Dec) : Dec := { d with below := d.below && decide (d.n ≠ 0) }
def Dec.cut (d : Dec) (s : Nat) : Dec := if d.scale ≤ s then ⟨d.below && decide (d.n * 10 ^ (s - d.scale) ≠ 0), d.n * 10 ^ (s - d.scale), s⟩ else ⟨d.below && decide (d.n / 10 ^ (d.scale - s) ≠ 0), d.n / 10 ^ (d.scale - s), s⟩
def Dec.neg (d : Dec) : Dec := Dec.clean { d with below := !d.below }
/-- the sign of a comparison at one scale -/
def Dec.cmp (d e : Dec) : Int :=
  let s := max d.scale e.scale
  let a := d.cut s
  let b := e.cut s
  if (a.below ≠ b.below ∧ a.below = true) ∨ (a.below = true ∧ b.n < a.n) ∨ (a.below = false ∧ b.below = false ∧ a.n < b.n) then -1
  else if a.below ≠ b.below ∨ a.n ≠ b.n then 1 else 0
def Dec.plus (d e : Dec) : Dec :=
  let s := max d.scale e.scale
  let a := d.cut s
  let b := e.cut s
  if a.below = b.below then Dec.clean ⟨a.below, a.n + b.n, s⟩
  else if a.n < b.n then Dec.clean ⟨b.below, b.n - a.n, s⟩ else Dec.clean ⟨a.below, a.n - b.n, s⟩
def Dec.product (d e : Dec) : Dec := Dec.clean ⟨d.below != e.below, d.n * e.n, d.scale + e.scale⟩
def Dec.times (d e : Dec) (s : Nat) : Dec := (d.product e).cut (min (d.scale + e.scale) (max s (max d.scale e.scale)))
def Dec.quotient (d e : Dec) (s : Nat) : Dec := Dec.clean ⟨d.below != e.below, d.n * 10 ^ (s + e.scale) / (e.n * 10 ^ d.scale), s⟩
def Dec.rest (d e : Dec) (s : Nat) : Dec := (d.plus ((d.quotient e s).product e).neg).cut (max d.scale (s + e.scale))
/-- the text of the digits -/
def Dec.digits (d : Dec) : List UInt8 := if (digs d.n).length ≤ d.scale then List.replicate (d.scale + 1 - (digs d.n).length) 48 ++ digs d.n else digs d.n
def Dec.plain (d : Dec) : List UInt8 := d.digits.take (d.digits.length - d.scale) ++ (if 0 < d.scale then 46 :: d.digits.drop (d.digits.length - d.scale) else [])
def Dec.text (d : Dec) : List UInt8 := if d.below = true ∧ d.n ≠ 0 then 45 :: d.plain else d.plain
def Dec.size (d : Dec) : Nat := max (digs d.n).length (d.scale + 1)
def Dec.ok (d : Dec) : Prop := d.below = true → d.n ≠ 0
theorem clean_ok (d : Dec) : d.clean.ok := by
  intro h
  simp [Dec.clean] at h
  exact h.2
theorem cut_ok (d : Dec) (s : Nat) : (d.cut s).ok := by
  unfold Dec.cut
  split
  · intro h; simp at h ⊢; exact h.2
  · intro h; simp only [Bool.and_eq_true, decide_eq_true_eq] at h; exact h.2

/-- reading a decimal -/
def isDigB (l : List UInt8) : Bool := !l.isEmpty && l.all fun c => 48 ≤ c && c ≤ 57
/-- what stands ahead of a full stop, and behind it, and whether there is one -/
def cutDot (s : List UInt8) : List UInt8 × List UInt8 × Bool := if (46 : UInt8) ∈ s then (s.takeWhile (· ≠ 46), (s.dropWhile (· ≠ 46)).drop 1, true) else (s, [], false)
def decBody (below : Bool) (s : List UInt8) : Option Dec :=
  let c := cutDot s
  if isDigB c.1 = false ∨ (1 < c.1.length ∧ c.1.head? = some 48) ∨ (c.2.2 = true ∧ isDigB c.2.1 = false) then none
  else if below = true ∧ nval (c.1 ++ c.2.1) = 0 then none else some ⟨below, nval (c.1 ++ c.2.1), c.2.1.length⟩
def decOf (s : List UInt8) : Option Dec := match s with
  | 45 :: r => decBody true r
  | _ => decBody false s
theorem isDigB_of {l : List UInt8} (h0 : l ≠ []) (h : isDig l) : isDigB l = true := by
  unfold isDigB
  rw [Bool.and_eq_true, List.all_eq_true]
  refine ⟨by simpa using h0, fun c hc => ?_⟩
  have := h c hc
  rw [Bool.and_eq_true, decide_eq_true_eq, decide_eq_true_eq, UInt8.le_iff_toNat_le, UInt8.le_iff_toNat_le]
  exact this
theorem isDig_of_B {l : List UInt8} (h : isDigB l = true) : l ≠ [] ∧ isDig l := by
  unfold isDigB at h
  rw [Bool.and_eq_true, List.all_eq_true] at h
  refine ⟨by simpa using h.1, fun c hc => ?_⟩
  have := h.2 c hc
  rw [Bool.and_eq_true, decide_eq_true_eq, decide_eq_true_eq, UInt8.le_iff_toNat_le, UInt8.le_iff_toNat_le] at this
  exact this
theorem digits_dig (d : Dec) : isDig d.digits := by
  unfold Dec.digits
  split
  · intro c hc
    rcases List.mem_append.1 hc with hc | hc
    · rw [List.eq_of_mem_replicate hc]; decide
    · exact digs_dig _ c hc
  · exact digs_dig _
theorem digits_val (d : Dec) : nval d.digits = d.n := by
  unfold Dec.digits
  split
  · rw [nval_append, nval_zeros, nval_digs, Nat.zero_mul, Nat.zero_add]
  · exact nval_digs _
theorem digits_len (d : Dec) : d.digits.length = max (digs d.n).length (d.scale + 1) := by
  unfold Dec.digits
  split
  · rw [List.length_append, List.length_replicate]; omega
  · omega
theorem cutDot_none {l : List UInt8} (h : isDig l) : cutDot l = (l, [], false) := by
  unfold cutDot
  rw [if_neg]
  intro hm
  have := h _ hm
  exact absurd this.1 (by decide)
theorem takeWhile_dig {l m : List UInt8} (h : isDig l) : (l ++ 46 :: m).takeWhile (· ≠ 46) = l ∧ (l ++ 46 :: m).dropWhile (· ≠ 46) = 46 :: m := by
  induction l with
  | nil => simp
  | cons c l ih =>
    have hc := h c (List.mem_cons_self)
    have hne : c ≠ 46 := by rintro rfl; exact absurd hc.1 (by decide)
    have ih := ih (fun d hd => h d (List.mem_cons_of_mem _ hd))
    simp only [List.cons_append]
    rw [List.takeWhile_cons_of_pos (by simpa using hne), List.dropWhile_cons_of_pos (by simpa using hne)]
    exact ⟨by rw [ih.1], ih.2⟩
theorem cutDot_some {l m : List UInt8} (h : isDig l) : cutDot (l ++ 46 :: m) = (l, m, true) := by
  unfold cutDot
  rw [if_pos (by simp)]
  obtain ⟨h1, h2⟩ := takeWhile_dig (m := m) h
  rw [h1, h2]
  rfl
theorem decBody_of (b : Bool) {l m : List UInt8} {dot : Bool} {s : List UInt8} (hc : cutDot s = (l, m, dot)) (hl : l ≠ []) (hdl : isDig l) (hh : l.length ≤ 1 ∨ l.head? ≠ some 48) (hm : dot = true → m ≠ [] ∧ isDig m) (hb : b = true → nval (l ++ m) ≠ 0) :
    decBody b s = some ⟨b, nval (l ++ m), m.length⟩ := by
  unfold decBody
  rw [hc]
  dsimp only
  rw [if_neg, if_neg]
  · rintro ⟨h1, h2⟩; exact hb h1 h2
  · rintro (h | ⟨h1, h2⟩ | ⟨h1, h2⟩)
    · rw [isDigB_of hl hdl] at h; cases h
    · rcases hh with h | h
      · omega
      · exact h h2
    · rw [isDigB_of (hm h1).1 (hm h1).2] at h2; cases h2
theorem plain_read (b : Bool) (d : Dec) (hb : b = true → d.n ≠ 0) : decBody b d.plain = some ⟨b, d.n, d.scale⟩ := by
  have hlen := digits_len d
  have hdig := digits_dig d
  have hval := digits_val d
  have h1 : (d.digits.take (d.digits.length - d.scale)).length = d.digits.length - d.scale := by rw [List.length_take]; omega
  have hne : d.digits.take (d.digits.length - d.scale) ≠ [] := by
    intro e
    rw [e, List.length_nil] at h1
    omega
  have hd1 : isDig (d.digits.take (d.digits.length - d.scale)) := fun c hc => hdig c (List.mem_of_mem_take hc)
  have hd2 : isDig (d.digits.drop (d.digits.length - d.scale)) := fun c hc => hdig c (List.mem_of_mem_drop hc)
  have hhead : (d.digits.take (d.digits.length - d.scale)).length ≤ 1 ∨ (d.digits.take (d.digits.length - d.scale)).head? ≠ some 48 := by
    by_cases hs : (digs d.n).length ≤ d.scale
    · left; rw [h1]; omega
    · right
      have hdd : d.digits = digs d.n := by unfold Dec.digits; rw [if_neg hs]
      intro e
      rw [hdd] at e hlen
      rw [List.head?_take, if_neg (by omega)] at e
      exact digs_head _ e rfl
  by_cases hs : 0 < d.scale
  · have hp : d.plain = d.digits.take (d.digits.length - d.scale) ++ 46 :: d.digits.drop (d.digits.length - d.scale) := by unfold Dec.plain; rw [if_pos hs]
    rw [hp]
    have hl2 : (d.digits.drop (d.digits.length - d.scale)).length = d.scale := by rw [List.length_drop]; omega
    have := decBody_of b (cutDot_some (m := d.digits.drop (d.digits.length - d.scale)) hd1) hne hd1 hhead (fun _ => ⟨by intro e; rw [e] at hl2; simp at hl2; omega, hd2⟩) (by rw [List.take_append_drop, hval]; exact hb)
    rw [this, List.take_append_drop, hval, hl2]
  · have h0 : d.scale = 0 := by omega
    have hp : d.plain = d.digits.take (d.digits.length - d.scale) := by unfold Dec.plain; rw [if_neg hs, List.append_nil]
    rw [hp]
    have := decBody_of b (cutDot_none hd1) hne hd1 hhead (fun h => by cases h) (by rw [List.append_nil, h0, Nat.sub_zero, List.take_length, hval]; exact hb)
    rw [this, List.append_nil, h0, Nat.sub_zero, List.take_length, hval]
    rfl
theorem plain_head (d : Dec) : d.plain.head? ≠ some 45 := by
  have hlen := digits_len d
  unfold Dec.plain
  rw [List.head?_append]
  cases h : (d.digits.take (d.digits.length - d.scale)).head? with
  | none =>
    rw [List.head?_eq_none_iff, List.take_eq_nil_iff] at h
    rcases h with h | h
    · omega
    · rw [h] at hlen; simp at hlen; omega
  | some c =>
    intro e
    have hc : c = 45 := by simpa using e
    have hm : c ∈ d.digits := List.mem_of_mem_take (List.mem_of_mem_head? h)
    have := digits_dig d c hm
    rw [hc] at this
    exact absurd this.1 (by decide)
/-- a text of a decimal is read as it -/
theorem text_read {d : Dec} (h : d.ok) : decOf d.text = some d := by
  unfold Dec.text
  by_cases hb : d.below = true ∧ d.n ≠ 0
  · rw [if_pos hb]
    show decBody true d.plain = _
    rw [plain_read true d (fun _ => hb.2), ← hb.1]
  · rw [if_neg hb]
    have hf : d.below = false := by
      cases hd : d.below with
      | false => rfl
      | true => exact absurd ⟨hd, h hd⟩ hb
    have h1 : decOf d.plain = decBody false d.plain := by
      unfold decOf
      split
      · rename_i r e
        have := plain_head d
        rw [e] at this
        exact absurd rfl this
      · rfl
    rw [h1, plain_read false d (fun h => by cases h), ← hf]
theorem decOf_ok {s : List UInt8} {d : Dec} (h : decOf s = some d) : d.ok := by
  have hb : ∀ b s, decBody b s = some d → d.ok := fun b s h => by
    unfold decBody at h
    dsimp only at h
    split at h
    · cases h
    · split at h
      · cases h
      · rename_i h2
        injection h with h
        subst h
        intro e h0
        exact h2 ⟨e, h0⟩
  unfold decOf at h
  split at h
  · exact hb _ _ h
  · exact hb _ _ h

def Dec.ival (d : Dec) : Int := if d.below = true then -(d.n : Int) else d.n
theorem ival_clean (d : Dec) : d.clean.ival = d.ival := by
  unfold Dec.ival Dec.clean
  cases h : d.below with
  | false => simp
  | true =>
    by_cases h0 : d.n = 0
    · simp [h0]
    · simp [h0]
theorem cut_up {d : Dec} {s : Nat} (h : d.scale ≤ s) : (d.cut s).ival = d.ival * (10 : Int) ^ (s - d.scale) ∧ (d.cut s).scale = s := by
  unfold Dec.cut
  rw [if_pos h]
  refine ⟨?_, rfl⟩
  unfold Dec.ival
  cases hb : d.below with
  | false => simp
  | true =>
    by_cases h0 : d.n * 10 ^ (s - d.scale) = 0
    · rw [h0]
      have h1 : d.n = 0 := by
        rcases Nat.mul_eq_zero.1 h0 with h1 | h1
        · exact h1
        · exact absurd h1 (Nat.ne_of_gt (Nat.pow_pos (by decide)))
      simp [h1]
    · simp only [Bool.true_and, ne_eq, h0, not_false_eq_true, decide_true, if_true]
      rw [Int.natCast_mul, Int.natCast_pow]
      show -((d.n : Int) * (10 : Int) ^ (s - d.scale)) = -(d.n : Int) * (10 : Int) ^ (s - d.scale)
      rw [Int.neg_mul]
theorem cut_n {d : Dec} {s : Nat} (h : d.scale ≤ s) : (d.cut s).n = d.n * 10 ^ (s - d.scale) := by
  unfold Dec.cut
  rw [if_pos h]
theorem cut_scale (d : Dec) (s : Nat) : (d.cut s).scale = s := by
  unfold Dec.cut
  split <;> rfl
theorem ival_nat (d : Dec) : d.ival.natAbs = d.n := by
  unfold Dec.ival
  split <;> simp
theorem neg_ival (d : Dec) : d.neg.ival = -d.ival ∧ d.neg.scale = d.scale := by
  unfold Dec.neg
  rw [ival_clean]
  refine ⟨?_, rfl⟩
  unfold Dec.ival
  cases d.below <;> simp
theorem plus_ival (d e : Dec) : (d.plus e).ival = (d.cut (max d.scale e.scale)).ival + (e.cut (max d.scale e.scale)).ival ∧ (d.plus e).scale = max d.scale e.scale := by
  unfold Dec.plus
  dsimp only
  generalize d.cut (max d.scale e.scale) = a
  generalize e.cut (max d.scale e.scale) = b
  split
  · rename_i h
    rw [ival_clean]
    refine ⟨?_, rfl⟩
    unfold Dec.ival
    dsimp only
    rw [← h]
    split <;> omega
  · rename_i h
    split
    · rename_i h1
      rw [ival_clean]
      refine ⟨?_, rfl⟩
      unfold Dec.ival
      dsimp only
      cases ha : a.below <;> cases hb : b.below <;> rw [ha, hb] at h <;> simp at h ⊢ <;> omega
    · rename_i h1
      rw [ival_clean]
      refine ⟨?_, rfl⟩
      unfold Dec.ival
      dsimp only
      cases ha : a.below <;> cases hb : b.below <;> rw [ha, hb] at h <;> simp at h ⊢ <;> omega
theorem product_ival (d e : Dec) : (d.product e).ival = d.ival * e.ival ∧ (d.product e).scale = d.scale + e.scale := by
  unfold Dec.product
  rw [ival_clean]
  refine ⟨?_, rfl⟩
  unfold Dec.ival
  cases d.below <;> cases e.below <;> simp [Int.natCast_mul, Int.neg_mul, Int.mul_neg]
theorem cmp_zero {d e : Dec} (h : (d.cut (max d.scale e.scale)).ival = (e.cut (max d.scale e.scale)).ival) : d.cmp e = 0 := by
  have h1 := cut_ok d (max d.scale e.scale)
  have h2 := cut_ok e (max d.scale e.scale)
  unfold Dec.cmp
  dsimp only
  generalize d.cut (max d.scale e.scale) = a at *
  generalize e.cut (max d.scale e.scale) = b at *
  unfold Dec.ival at h
  unfold Dec.ok at h1 h2
  cases ha : a.below <;> cases hb : b.below <;> simp only [ha, hb] at h h1 h2 ⊢
  · have : a.n = b.n := by simp at h; omega
    simp [this]
  · have := h2 trivial
    simp at h
    omega
  · have := h1 trivial
    simp at h
    omega
  · have : a.n = b.n := by simp at h; omega
    simp [this]
theorem cmp_le {d e : Dec} (hd : d.below = false) (he : e.below = false) (h : (d.cut (max d.scale e.scale)).n ≤ (e.cut (max d.scale e.scale)).n) : d.cmp e ≤ 0 := by
  have h1 : (d.cut (max d.scale e.scale)).below = false := by unfold Dec.cut; split <;> simp [hd]
  have h2 : (e.cut (max d.scale e.scale)).below = false := by unfold Dec.cut; split <;> simp [he]
  unfold Dec.cmp
  dsimp only
  generalize d.cut (max d.scale e.scale) = a at *
  generalize e.cut (max d.scale e.scale) = b at *
  simp only [h1, h2]
  by_cases hlt : a.n < b.n
  · simp [hlt]
  · have : a.n = b.n := by omega
    simp [this]

/-- what is read has no more digits than the text has bytes -/
theorem cutDot_len (s : List UInt8) : (cutDot s).1.length + (cutDot s).2.1.length ≤ s.length := by
  unfold cutDot
  split
  · have h := congrArg List.length (List.takeWhile_append_dropWhile (p := fun c : UInt8 => decide (c ≠ 46)) (l := s))
    rw [List.length_append] at h
    simp only [List.length_drop]
    omega
  · simp
theorem body_some {b : Bool} {s : List UInt8} {d : Dec} (h : decBody b s = some d) : d = ⟨b, nval ((cutDot s).1 ++ (cutDot s).2.1), (cutDot s).2.1.length⟩ ∧ isDig ((cutDot s).1 ++ (cutDot s).2.1) ∧ 0 < (cutDot s).1.length := by
  unfold decBody at h
  dsimp only at h
  split at h
  · cases h
  · rename_i h1
    split at h
    · cases h
    · injection h with h
      have hl : isDigB (cutDot s).1 = true := by
        cases hx : isDigB (cutDot s).1 with
        | true => rfl
        | false => exact absurd (.inl hx) h1
      have hm : (cutDot s).2.2 = true → isDigB (cutDot s).2.1 = true := fun hy => by
        cases hx : isDigB (cutDot s).2.1 with
        | true => rfl
        | false => exact absurd (.inr (.inr ⟨hy, hx⟩)) h1
      refine ⟨h.symm, fun c hc => ?_, List.length_pos_iff.2 (isDig_of_B hl).1⟩
      rcases List.mem_append.1 hc with hc | hc
      · exact (isDig_of_B hl).2 c hc
      · cases hd : (cutDot s).2.2 with
        | true => exact (isDig_of_B (hm hd)).2 c hc
        | false =>
          unfold cutDot at hd hc
          split at hd
          · cases hd
          · rename_i hn
            rw [if_neg hn] at hc
            cases hc
theorem cutDot_minus (r : List UInt8) : (cutDot (45 :: r)).2.1 = (cutDot r).2.1 ∧ (cutDot (45 :: r)).2.2 = (cutDot r).2.2 := by
  unfold cutDot
  by_cases h : (46 : UInt8) ∈ r
  · rw [if_pos h, if_pos (List.mem_cons_of_mem _ h)]
    exact ⟨by rw [List.dropWhile_cons_of_pos (by decide)], rfl⟩
  · rw [if_neg h, if_neg (by
      intro hm
      rcases List.mem_cons.1 hm with hm | hm
      · exact absurd hm (by decide)
      · exact h hm)]
    exact ⟨rfl, rfl⟩
theorem decOf_some {s : List UInt8} {d : Dec} (h : decOf s = some d) : d.scale = (cutDot s).2.1.length ∧ (digs d.n).length ≤ s.length ∧ d.scale < s.length := by
  unfold decOf at h
  split at h
  · rename_i r
    obtain ⟨rfl, hd, h0⟩ := body_some h
    obtain ⟨c1, _⟩ := cutDot_minus r
    have hl := cutDot_len r
    refine ⟨by rw [c1], ?_, by simp only [List.length_cons]; omega⟩
    have := (digs_len _ _).1 (nval_lt hd)
    rw [List.length_append] at this
    simp only [List.length_cons]
    omega
  · obtain ⟨rfl, hd, h0⟩ := body_some h
    have hl := cutDot_len s
    refine ⟨rfl, ?_, by simp only; omega⟩
    have := (digs_len _ _).1 (nval_lt hd)
    rw [List.length_append] at this
    dsimp only
    omega
theorem pow10_split {a b : Nat} (h : a ≤ b) : (10 : Nat) ^ b = 10 ^ a * 10 ^ (b - a) := by rw [← Nat.pow_add]; congr 1; omega
theorem lt_digs (x : Nat) : x < 10 ^ (digs x).length := (digs_len _ _).2 (Nat.le_refl _)

/-- the quotient times the divisor, and the rest -/
theorem law_quotient {a b : Dec} {s : Nat} (ha : a.size ≤ 200) (hb : b.n ≠ 0) (hr : (a.rest b s).size ≤ 200) (hs : s ≤ 20) (hbs : b.scale ≤ 20)
    (hlen : (digs (a.quotient b s).n).length + (digs b.n).length ≤ 60) :
    (((a.quotient b s).times b 40).plus (a.rest b s)).size ≤ 200 ∧ (((a.quotient b s).times b 40).plus (a.rest b s)).cmp a = 0 := by
  have hqs : (a.quotient b s).scale = s := rfl
  have hqn : (a.quotient b s).n = a.n * 10 ^ (s + b.scale) / (b.n * 10 ^ a.scale) := rfl
  obtain ⟨pi1, pi2⟩ := product_ival (a.quotient b s) b
  rw [hqs] at pi2
  have hp : ((a.quotient b s).times b 40).ival = (a.quotient b s).ival * b.ival ∧ ((a.quotient b s).times b 40).scale = s + b.scale := by
    unfold Dec.times
    rw [hqs, show min (s + b.scale) (max 40 (max s b.scale)) = s + b.scale by omega]
    obtain ⟨c1, c2⟩ := cut_up (d := (a.quotient b s).product b) (s := s + b.scale) (by rw [pi2]; exact Nat.le_refl _)
    refine ⟨?_, c2⟩
    rw [c1, pi2, Nat.sub_self, Int.pow_zero, Int.mul_one, pi1]
  obtain ⟨M, hM⟩ : ∃ M, M = max a.scale (s + b.scale) := ⟨_, rfl⟩
  have hrest : (a.rest b s).ival = a.ival * 10 ^ (M - a.scale) - (a.quotient b s).ival * b.ival * 10 ^ (M - (s + b.scale)) ∧ (a.rest b s).scale = M := by
    unfold Dec.rest
    rw [← hM]
    obtain ⟨n1, n2⟩ := neg_ival ((a.quotient b s).product b)
    rw [pi2] at n2
    rw [pi1] at n1
    obtain ⟨s1, s2⟩ := plus_ival a ((a.quotient b s).product b).neg
    rw [n2, ← hM] at s1 s2
    obtain ⟨c1, c2⟩ := cut_up (d := a.plus ((a.quotient b s).product b).neg) (s := M) (by rw [s2]; exact Nat.le_refl _)
    refine ⟨?_, c2⟩
    rw [c1, s2, Nat.sub_self, Int.pow_zero, Int.mul_one, s1, (cut_up (d := a) (s := M) (by omega)).1, (cut_up (d := ((a.quotient b s).product b).neg) (s := M) (by rw [n2]; omega)).1, n1, n2, Int.neg_mul]
    omega
  obtain ⟨p1, p2⟩ := hp
  obtain ⟨r1, r2⟩ := hrest
  generalize (a.quotient b s).times b 40 = p at *
  obtain ⟨s1, s2⟩ := plus_ival p (a.rest b s)
  rw [p2, r2, show max (s + b.scale) M = M by omega] at s1 s2
  have hsum : (p.plus (a.rest b s)).ival = a.ival * 10 ^ (M - a.scale) := by
    rw [s1, (cut_up (d := p) (s := M) (by omega)).1, (cut_up (d := a.rest b s) (s := M) (by omega)).1, p1, p2, r1, r2, Nat.sub_self, Int.pow_zero, Int.mul_one]
    omega
  constructor
  · have h1 : M + 1 ≤ 200 := by unfold Dec.size at hr; rw [r2] at hr; omega
    have h2 : (p.plus (a.rest b s)).n = a.n * 10 ^ (M - a.scale) := by
      rw [← ival_nat, hsum, Int.natAbs_mul, ival_nat]
      congr 1
    unfold Dec.size
    rw [s2, h2]
    have h3 : (digs (a.n * 10 ^ (M - a.scale))).length ≤ 200 := by
      by_cases hc : M = a.scale
      · rw [hc, Nat.sub_self, Nat.pow_zero, Nat.mul_one]
        unfold Dec.size at ha
        omega
      · have hMs : M = s + b.scale := by omega
        refine Nat.le_trans ((digs_len 60 _).1 ?_) (by decide)
        have e1 : a.n * 10 ^ (s + b.scale) = a.n * 10 ^ (M - a.scale) * 10 ^ a.scale := by rw [Nat.mul_assoc, ← Nat.pow_add, hMs]; congr 2; omega
        have hD : 0 < b.n * 10 ^ a.scale := Nat.mul_pos (Nat.pos_of_ne_zero hb) (Nat.pow_pos (by decide))
        have e2 : a.n * 10 ^ (s + b.scale) < (a.quotient b s).n * (b.n * 10 ^ a.scale) + b.n * 10 ^ a.scale := by
          rw [hqn]
          have h5 := Nat.div_add_mod (a.n * 10 ^ (s + b.scale)) (b.n * 10 ^ a.scale)
          have h6 := Nat.mod_lt (a.n * 10 ^ (s + b.scale)) hD
          rw [Nat.mul_comm] at h5
          omega
        have e3 : (a.quotient b s).n * (b.n * 10 ^ a.scale) + b.n * 10 ^ a.scale = (((a.quotient b s).n + 1) * b.n) * 10 ^ a.scale := by rw [Nat.add_mul, Nat.add_mul, Nat.one_mul, Nat.mul_assoc]
        rw [e1, e3] at e2
        have e4 : a.n * 10 ^ (M - a.scale) < ((a.quotient b s).n + 1) * b.n := Nat.lt_of_mul_lt_mul_right e2
        have e5 : (a.quotient b s).n + 1 ≤ 10 ^ (digs (a.quotient b s).n).length := lt_digs _
        have e6 : b.n ≤ 10 ^ (digs b.n).length := Nat.le_of_lt (lt_digs _)
        have e7 : ((a.quotient b s).n + 1) * b.n ≤ 10 ^ (digs (a.quotient b s).n).length * 10 ^ (digs b.n).length := Nat.mul_le_mul e5 e6
        rw [← Nat.pow_add] at e7
        have e8 : 10 ^ ((digs (a.quotient b s).n).length + (digs b.n).length) ≤ 10 ^ 60 := Nat.pow_le_pow_right (by decide) hlen
        omega
    omega
  · refine cmp_zero ?_
    rw [s2, show max M a.scale = M by omega, (cut_up (d := p.plus (a.rest b s)) (s := M) (by omega)).1, (cut_up (d := a) (s := M) (by omega)).1, s2, Nat.sub_self, Int.pow_zero, Int.mul_one, hsum]

/-- the square of a root is not greater -/
theorem law_root {a : Dec} {s R : Nat} (ha : a.below = false) (hR : R * R ≤ a.n * 10 ^ (2 * max s a.scale - a.scale)) :
    ((Dec.mk false R (max s a.scale)).times (Dec.mk false R (max s a.scale)) 40).cmp a ≤ 0 := by
  obtain ⟨m, hm⟩ : ∃ m, m = max s a.scale := ⟨_, rfl⟩
  rw [← hm] at hR ⊢
  unfold Dec.times Dec.product Dec.clean
  dsimp only
  obtain ⟨T, hT⟩ : ∃ T, T = min (m + m) (max 40 (max m m)) := ⟨_, rfl⟩
  rw [← hT]
  refine cmp_le ?_ ha ?_
  · unfold Dec.cut; split <;> simp
  · rw [cut_scale]
    obtain ⟨S, hS⟩ : ∃ S, S = max T a.scale := ⟨_, rfl⟩
    rw [← hS, cut_n (d := a) (by omega), cut_n (by rw [cut_scale]; omega), cut_scale]
    have hn : ∃ L, (Dec.cut ⟨(false != false) && decide (R * R ≠ 0), R * R, m + m⟩ T).n = L ∧ L * 10 ^ (m + m - T) ≤ R * R := by
      refine ⟨_, rfl, ?_⟩
      unfold Dec.cut
      dsimp only
      by_cases h : m + m ≤ T
      · rw [if_pos h]
        have : m + m = T := by omega
        rw [this, Nat.sub_self, Nat.pow_zero, Nat.mul_one, Nat.mul_one]
        exact Nat.le_refl _
      · rw [if_neg h]
        exact Nat.div_mul_le_self _ _
    obtain ⟨L, hL, hL2⟩ := hn
    rw [hL]
    have h1 : L * 10 ^ (m + m - T) ≤ a.n * 10 ^ (2 * m - a.scale) := Nat.le_trans hL2 hR
    have h2 : L * 10 ^ (m + m - T) * 10 ^ S ≤ a.n * 10 ^ (2 * m - a.scale) * 10 ^ S := Nat.mul_le_mul_right _ h1
    have e1 : L * 10 ^ (m + m - T) * 10 ^ S = L * 10 ^ (S - T) * 10 ^ (m + m) := by rw [Nat.mul_assoc, Nat.mul_assoc, ← Nat.pow_add, ← Nat.pow_add]; congr 2; omega
    have e2 : a.n * 10 ^ (2 * m - a.scale) * 10 ^ S = a.n * 10 ^ (S - a.scale) * 10 ^ (m + m) := by rw [Nat.mul_assoc, Nat.mul_assoc, ← Nat.pow_add, ← Nat.pow_add]; congr 2; omega
    rw [e1, e2] at h2
    exact Nat.le_of_mul_le_mul_right h2 (Nat.pow_pos (by decide))
end Go.Proofs.YthodlgjfmddemaaGreatDoor.Rk
