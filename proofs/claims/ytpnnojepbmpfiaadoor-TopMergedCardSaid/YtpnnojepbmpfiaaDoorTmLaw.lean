/- TopMerged, plain: differences, regions, merges. -/
import Derived.Test.YtpnnojepbmpfiaaDoorBase
namespace Go.Proofs.YtpnnojepbmpfiaaDoor

/-- how many pairs can stay of what is left -/
def rT : List ByteArray → List ByteArray → Nat
  | [], _ => 0
  | _ :: _, [] => 0
  | x :: a, y :: b => if x = y then rT a b + 1 else max (rT a (y :: b)) (rT (x :: a) b)
termination_by a b => a.length + b.length
theorem rT_nil (b : List ByteArray) : rT ([] : List ByteArray) b = 0 := by unfold rT; rfl
theorem rT_nil2 (a : List ByteArray) : rT a ([] : List ByteArray) = 0 := by cases a <;> (unfold rT; rfl)
theorem rT_cons (x y : ByteArray) (a b : List ByteArray) : rT (x :: a) (y :: b) = if x = y then rT a b + 1 else max (rT a (y :: b)) (rT (x :: a) b) := by
  conv => lhs; unfold rT
theorem rT_same : ∀ (a : List ByteArray), rT a a = a.length
  | [] => rT_nil []
  | x :: a => by rw [rT_cons, if_pos rfl, rT_same a, List.length_cons]
/-- where a line stands first -/
def idxB : List ByteArray → ByteArray → Option Nat
  | [], _ => none
  | y :: b, x => if y = x then some 0 else (idxB b x).map (· + 1)
theorem idxB_some : ∀ {b : List ByteArray} {x : ByteArray} {n : Nat}, idxB b x = some n → b[n]? = some x
  | [], _, _, h => by cases h
  | y :: b, x, n, h => by
    unfold idxB at h
    split at h
    · rename_i e
      injection h with h
      subst h e
      rfl
    · cases hb : idxB b x with
      | none => rw [hb] at h; cases h
      | some m =>
        rw [hb] at h
        injection h with h
        subst h
        show (y :: b)[m + 1]? = some x
        rw [List.getElem?_cons_succ]
        exact idxB_some hb
/-- the pairs of lines that stay, from line i of a and line k of b on -/
def stL : List ByteArray → Nat → List ByteArray → Nat → List (Nat × Nat)
  | [], _, _, _ => []
  | x :: a, i, b, k => if rT (x :: a) b = 0 then [] else
    match idxB b x with
    | some n => if rT a (b.drop (n + 1)) + 1 = rT (x :: a) b then (i, k + n) :: stL a (i + 1) (b.drop (n + 1)) (k + n + 1) else stL a (i + 1) b k
    | none => stL a (i + 1) b k
/-- pairs that rise, of equal lines, from f and t on -/
def GoodP (a b : List ByteArray) : Nat → Nat → List (Nat × Nat) → Prop
  | _, _, [] => True
  | f, t, (p, q) :: r => f ≤ p ∧ t ≤ q ∧ (∃ x, a[p]? = some x ∧ b[q]? = some x) ∧ GoodP a b (p + 1) (q + 1) r
theorem GoodP.less {a b : List ByteArray} : ∀ {P : List (Nat × Nat)} {f t f' t' : Nat}, GoodP a b f t P → f' ≤ f → t' ≤ t → GoodP a b f' t' P
  | [], _, _, _, _, _, _, _ => trivial
  | (_, _) :: _, _, _, _, _, h, h1, h2 => ⟨Nat.le_trans h1 h.1, Nat.le_trans h2 h.2.1, h.2.2⟩
theorem stL_good (a0 b0 : List ByteArray) : ∀ (a : List ByteArray) (i : Nat) (b : List ByteArray) (k : Nat), a = a0.drop i → b = b0.drop k → GoodP a0 b0 i k (stL a i b k)
  | [], _, _, _, _, _ => trivial
  | x :: a, i, b, k, ha, hb => by
    have ha' : a = a0.drop (i + 1) := by
      rw [← List.drop_drop, ← ha]
      rfl
    have hax : a0[i]? = some x := by
      have := congrArg (·[0]?) ha
      simpa using this.symm
    unfold stL
    split
    · trivial
    · split
      · rename_i n hn
        split
        · refine ⟨Nat.le_refl _, by omega, ⟨x, hax, ?_⟩, ?_⟩
          · have h3 := idxB_some hn
            rw [hb, List.getElem?_drop] at h3
            exact h3
          · exact stL_good a0 b0 a (i + 1) (b.drop (n + 1)) (k + n + 1) ha' (by rw [hb, List.drop_drop]; congr 1)
        · exact (stL_good a0 b0 a (i + 1) b k ha' hb).less (Nat.le_succ _) (Nat.le_refl _)
      · exact (stL_good a0 b0 a (i + 1) b k ha' hb).less (Nat.le_succ _) (Nat.le_refl _)
/-- a list against itself: each line stays -/
theorem stL_same : ∀ (a : List ByteArray) (i : Nat), stL a i a i = (List.range' i a.length).map fun j => (j, j)
  | [], _ => rfl
  | x :: a, i => by
    have h0 : idxB (x :: a) x = some 0 := by unfold idxB; rw [if_pos rfl]
    unfold stL
    rw [if_neg (by rw [rT_same]; simp), h0]
    simp only [Nat.zero_add, List.drop_succ_cons, List.drop_zero, Nat.add_zero]
    rw [if_pos (by rw [rT_same, rT_same]; rfl), stL_same a (i + 1)]
    rfl
/-- a hunk: where it begins in both lists, what was, what is -/
structure HK where
  fr : Nat
  tb : Nat
  old : List ByteArray
  new : List ByteArray
def HK.fin (h : HK) : Nat := h.fr + h.old.length
/-- the difference by pairs that stay -/
def hkL (a b : List ByteArray) : Nat → Nat → List (Nat × Nat) → List HK
  | f, t, [] => if f < a.length ∨ t < b.length then [⟨f, t, a.drop f, b.drop t⟩] else []
  | f, t, (p, q) :: r => (if f < p ∨ t < q then [⟨f, t, (a.drop f).take (p - f), (b.drop t).take (q - t)⟩] else []) ++ hkL a b (p + 1) (q + 1) r
/-- the list that hunks make, from line c on -/
def repL (a : List ByteArray) : Nat → List HK → List ByteArray
  | c, [] => a.drop c
  | c, h :: r => (a.drop c).take (h.fr - c) ++ h.new ++ repL a h.fin r
/-- hunks that rise, a line at least between them -/
def Apart (a : List ByteArray) : Nat → List HK → Prop
  | _, [] => True
  | c, h :: r => c ≤ h.fr ∧ h.fin ≤ a.length ∧ h.old = (a.drop h.fr).take h.old.length ∧ Apart a (h.fin + 1) r
theorem repL_step {a : List ByteArray} {p : Nat} {x : ByteArray} (hx : a[p]? = some x) : ∀ {R : List HK}, Apart a (p + 1) R → repL a p R = x :: repL a (p + 1) R
  | [], _ => by
    have hp : p < a.length := (List.getElem?_eq_some_iff.1 hx).1
    have hv := (List.getElem?_eq_some_iff.1 hx).2
    show a.drop p = x :: a.drop (p + 1)
    rw [List.drop_eq_getElem_cons hp, hv]
  | h :: r, hA => by
    have hp : p < a.length := (List.getElem?_eq_some_iff.1 hx).1
    have hv := (List.getElem?_eq_some_iff.1 hx).2
    have h1 := hA.1
    show (a.drop p).take (h.fr - p) ++ h.new ++ repL a h.fin r = x :: ((a.drop (p + 1)).take (h.fr - (p + 1)) ++ h.new ++ repL a h.fin r)
    rw [List.drop_eq_getElem_cons hp, hv, show h.fr - p = (h.fr - (p + 1)) + 1 by omega, List.take_succ_cons]
    rfl
theorem Apart.less {a : List ByteArray} {c c' : Nat} : ∀ {R : List HK}, Apart a c R → c' ≤ c → Apart a c' R
  | [], _, _ => trivial
  | _ :: _, h, hc => ⟨Nat.le_trans hc h.1, h.2⟩
theorem take_len_self (l : List ByteArray) (n : Nat) : l.take n = l.take (l.take n).length := by
  rw [List.length_take]
  rcases Nat.le_total n l.length with h | h
  · rw [Nat.min_eq_left h]
  · rw [Nat.min_eq_right h, List.take_of_length_le h, List.take_length]
/-- the difference is right: its hunks lie apart, and make b of a -/
theorem hk_right (a b : List ByteArray) : ∀ (P : List (Nat × Nat)) (f t : Nat), GoodP a b f t P → f ≤ a.length → t ≤ b.length → Apart a f (hkL a b f t P) ∧ repL a f (hkL a b f t P) = b.drop t
  | [], f, t, _, hf, ht => by
    unfold hkL
    by_cases h : f < a.length ∨ t < b.length
    · rw [if_pos h]
      refine ⟨⟨Nat.le_refl _, by simp [HK.fin]; omega, ?_, trivial⟩, ?_⟩
      · show a.drop f = (a.drop f).take (a.drop f).length
        rw [List.take_length]
      · show (a.drop f).take (f - f) ++ b.drop t ++ a.drop (f + (a.drop f).length) = b.drop t
        rw [Nat.sub_self, List.take_zero, List.nil_append, List.length_drop, List.drop_of_length_le (by omega : a.length ≤ f + (a.length - f)), List.append_nil]
    · rw [if_neg h]
      refine ⟨trivial, ?_⟩
      show a.drop f = b.drop t
      rw [List.drop_of_length_le (by omega), List.drop_of_length_le (by omega)]
  | (p, q) :: r, f, t, hP, hf, ht => by
    obtain ⟨h1, h2, ⟨x, hxa, hxb⟩, hr⟩ := hP
    have hpa : p < a.length := (List.getElem?_eq_some_iff.1 hxa).1
    have hqb : q < b.length := (List.getElem?_eq_some_iff.1 hxb).1
    obtain ⟨ih1, ih2⟩ := hk_right a b r (p + 1) (q + 1) hr hpa hqb
    have hbq : b.drop q = x :: b.drop (q + 1) := by
      rw [List.drop_eq_getElem_cons hqb, (List.getElem?_eq_some_iff.1 hxb).2]
    have hst : repL a p (hkL a b (p + 1) (q + 1) r) = b.drop q := by
      rw [repL_step hxa ih1, ih2, hbq]
    unfold hkL
    by_cases h : f < p ∨ t < q
    · rw [if_pos h]
      have hfin : f + ((a.drop f).take (p - f)).length = p := by rw [List.length_take, List.length_drop]; omega
      refine ⟨⟨Nat.le_refl _, ?_, take_len_self _ _, ?_⟩, ?_⟩
      · show f + ((a.drop f).take (p - f)).length ≤ a.length
        omega
      · show Apart a (f + ((a.drop f).take (p - f)).length + 1) _
        rw [hfin]
        exact ih1
      · show (a.drop f).take (f - f) ++ (b.drop t).take (q - t) ++ repL a (f + ((a.drop f).take (p - f)).length) (hkL a b (p + 1) (q + 1) r) = b.drop t
        rw [hfin, Nat.sub_self, List.take_zero, List.nil_append, hst]
        have : b.drop q = (b.drop t).drop (q - t) := by rw [List.drop_drop]; congr 1; omega
        rw [this, List.take_append_drop]
    · rw [if_neg h]
      have e1 : f = p := by omega
      have e2 : t = q := by omega
      subst e1 e2
      exact ⟨ih1.less (Nat.le_succ _), hst⟩
/-- the difference of lists -/
def diffL (a b : List ByteArray) : List HK := hkL a b 0 0 (stL a 0 b 0)
theorem diff_right (a b : List ByteArray) : Apart a 0 (diffL a b) ∧ repL a 0 (diffL a b) = b := by
  have := hk_right a b (stL a 0 b 0) 0 0 (stL_good a b a 0 b 0 rfl rfl) (Nat.zero_le _) (Nat.zero_le _)
  unfold diffL
  simpa using this
theorem hk_same (a : List ByteArray) : ∀ (n i : Nat), i + n = a.length → hkL a a i i ((List.range' i n).map fun j => (j, j)) = []
  | 0, i, h => by
    show (if i < a.length ∨ i < a.length then _ else _) = _
    rw [if_neg (by omega)]
  | n + 1, i, h => by
    show (if i < i ∨ i < i then _ else _) ++ hkL a a (i + 1) (i + 1) ((List.range' (i + 1) n).map fun j => (j, j)) = []
    rw [if_neg (by omega), hk_same a n (i + 1) (by omega)]
    rfl
/-- a list against itself: no difference -/
theorem diff_same (a : List ByteArray) : diffL a a = [] := by
  unfold diffL
  rw [stL_same]
  exact hk_same a a.length 0 (by omega)
/-! Regions. -/
/-- a hunk's stretch comes to the regions so far (the last one ahead) -/
def regS : List (Nat × Nat) → Nat × Nat → List (Nat × Nat)
  | [], e => [e]
  | (f, t) :: r, e => if e.1 ≤ t then (f, max t e.2) :: r else e :: (f, t) :: r
theorem regS_comm (s : List (Nat × Nat)) (e1 e2 : Nat × Nat) (h : e1.1 = e2.1) (h1 : e1.1 ≤ e1.2) (h2 : e2.1 ≤ e2.2) : regS (regS s e1) e2 = regS (regS s e2) e1 := by
  obtain ⟨a, b⟩ := e1
  obtain ⟨c, d⟩ := e2
  dsimp only at h h1 h2
  subst h
  match s with
  | [] =>
    simp only [regS]
    rw [if_pos h1, if_pos h2, Nat.max_comm]
  | (f, t) :: r =>
    simp only [regS]
    by_cases ht : a ≤ t
    · rw [if_pos ht, if_pos ht]
      simp only
      rw [if_pos (by omega), if_pos (by omega)]
      congr 2
      omega
    · rw [if_neg ht, if_neg ht]
      simp only
      rw [if_pos h1, if_pos h2, Nat.max_comm]
def regL (l : List (Nat × Nat)) : List (Nat × Nat) := (l.foldl regS []).reverse
theorem fold_front (e : Nat × Nat) (he : e.1 ≤ e.2) : ∀ (pre post : List (Nat × Nat)) (s : List (Nat × Nat)), (∀ x ∈ pre, x.1 = e.1 ∧ x.1 ≤ x.2) → (pre ++ e :: post).foldl regS s = (e :: (pre ++ post)).foldl regS s
  | [], _, _, _ => rfl
  | x :: pre, post, s, h => by
    have hx := h x List.mem_cons_self
    show (pre ++ e :: post).foldl regS (regS s x) = (pre ++ post).foldl regS (regS (regS s e) x)
    rw [fold_front e he pre post (regS s x) (fun y hy => h y (List.mem_cons_of_mem _ hy))]
    show (pre ++ post).foldl regS (regS (regS s x) e) = _
    rw [regS_comm s x e hx.1 hx.2 he]
/-- regions do not depend on the order of stretches that begin at the same line -/
theorem reg_perm : ∀ (l m : List (Nat × Nat)) (s : List (Nat × Nat)), l.Perm m → l.Pairwise (fun x y => x.1 ≤ y.1) → m.Pairwise (fun x y => x.1 ≤ y.1) → (∀ x ∈ l, x.1 ≤ x.2) → l.foldl regS s = m.foldl regS s
  | [], m, s, hp, _, _, _ => by rw [List.nil_perm.1 hp]
  | e :: l, m, s, hp, hl, hm, hok => by
    have hmem : e ∈ m := hp.mem_iff.1 List.mem_cons_self
    obtain ⟨pre, post, rfl⟩ := List.append_of_mem hmem
    obtain ⟨hl1, hl2⟩ := List.pairwise_cons.1 hl
    have hp2 : l.Perm (pre ++ post) := List.Perm.cons_inv (hp.trans List.perm_middle)
    obtain ⟨m1, m2, m3⟩ := List.pairwise_append.1 hm
    have hpre : ∀ x ∈ pre, x.1 = e.1 ∧ x.1 ≤ x.2 := fun x hx => by
      have a1 := m3 x hx e List.mem_cons_self
      have hxl : x ∈ l := hp2.mem_iff.2 (List.mem_append_left _ hx)
      have a2 := hl1 x hxl
      exact ⟨by omega, hok x (List.mem_cons_of_mem _ hxl)⟩
    rw [fold_front e (hok e List.mem_cons_self) pre post s hpre]
    show l.foldl regS (regS s e) = (pre ++ post).foldl regS (regS s e)
    refine reg_perm l (pre ++ post) (regS s e) hp2 hl2 ?_ (fun x hx => hok x (List.mem_cons_of_mem _ hx))
    exact List.pairwise_append.2 ⟨m1, (List.pairwise_cons.1 m2).2, fun x hx y hy => m3 x hx y (List.mem_cons_of_mem _ hy)⟩
end Go.Proofs.YtpnnojepbmpfiaaDoor
