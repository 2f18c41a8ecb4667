/- Arithmetic expressions, plain: how a text is read. No program in sight. -/
import Derived.Lib.Hide
namespace Go.Proofs.YtonejkomggpbbabGreatDoor

/-- an expression -/
inductive Ex where
  | mk (op : List UInt8) (n : Int) (name : List UInt8) (args : List Ex)
def Ex.op : Ex → List UInt8 | .mk o _ _ _ => o
def Ex.name : Ex → List UInt8 | .mk _ _ m _ => m
def Ex.args : Ex → List Ex | .mk _ _ _ a => a
def bx (s : List UInt8) (l : List Ex) : Ex := .mk s 0 [] l

/-- a backslash and a line feed are left out -/
def skipJ : List UInt8 → List UInt8
  | a :: b :: r => if a = 92 ∧ b = 10 then skipJ r else a :: b :: r
  | l => l
def blB (a : UInt8) : Bool := a == 32 || a == 9 || a == 10
/-- blanks, line feeds, and what is left out -/
def gap : List UInt8 → List UInt8
  | [] => []
  | [a] => if blB a = true then [] else [a]
  | a :: b :: r => if blB a = true then gap (b :: r) else if a = 92 ∧ b = 10 then gap r else a :: b :: r
/-- a text is taken, if it stands there -/
def takeS : List UInt8 → List UInt8 → Option (List UInt8)
  | [], l => some l
  | c :: s, l => match skipJ l with
    | d :: r => if d = c then takeS s r else none
    | [] => none
def signs : List (List UInt8) := [[60, 60, 61], [62, 62, 61], [60, 60], [62, 62], [60, 61], [62, 61], [61, 61], [33, 61], [38, 38], [124, 124], [43, 43], [45, 45], [43, 61], [45, 61], [42, 61], [47, 61], [37, 61], [38, 61], [94, 61], [124, 61],
  [43], [45], [42], [47], [37], [60], [62], [38], [94], [124], [33], [126], [63], [58], [61], [44], [40], [41], [91], [93]]
/-- the sign that stands next -/
def sg (l : List UInt8) : List UInt8 := (signs.find? fun s => (takeS s (gap l)).isSome).getD []
/-- what stands behind it -/
def aft (s l : List UInt8) : List UInt8 := (takeS s (gap l)).getD []
def isD (a : UInt8) : Bool := decide (48 ≤ a.toNat ∧ a.toNat ≤ 57)
def isL (a : UInt8) : Bool := decide (97 ≤ a.toNat ∧ a.toNat ≤ 122 ∨ 65 ≤ a.toNat ∧ a.toNat ≤ 90 ∨ a.toNat = 95)
def isW (a : UInt8) : Bool := isL a || isD a
/-- the bytes of a kind, and what stands behind them -/
def run (q : UInt8 → Bool) : List UInt8 → List UInt8 × List UInt8
  | [] => ([], [])
  | [a] => if q a = true then ([a], []) else ([], [a])
  | a :: b :: r => if a = 92 ∧ b = 10 then run q r else if q a = true then (a :: (run q (b :: r)).1, (run q (b :: r)).2) else ([], a :: b :: r)
def dv (c : UInt8) : Nat := if isD c = true then c.toNat - 48 else if 97 ≤ c.toNat ∧ c.toNat ≤ 102 then c.toNat - 87 else if 65 ≤ c.toNat ∧ c.toNat ≤ 70 then c.toNat - 55 else 99
def maxN : Nat := 9223372036854775807
def numV (base : Nat) : List UInt8 → Nat → Option Nat
  | [], n => some n
  | c :: r, n => if dv c < base ∧ base * n + dv c ≤ maxN then numV base r (base * n + dv c) else none
def baseOf (s : List UInt8) : Nat := if s.take 2 = [48, 120] then 16 else if 1 < s.length ∧ s.take 1 = [48] then 8 else 10
def digsOf (s : List UInt8) : List UInt8 := if s.take 2 = [48, 120] then s.drop 2 else if 1 < s.length ∧ s.take 1 = [48] then s.drop 1 else s
def numOf (s : List UInt8) : Option Nat := if digsOf s = [] then none else numV (baseOf s) (digsOf s) 0
def isNm (s : List UInt8) : Bool := match s with
  | [] => false
  | c :: r => decide (s.length ≤ 64) && isL c && r.all isW
def target (x : Ex) : Bool := x.op == [101] || x.op == [118] && isNm x.name
/-- the digits of an argument in braces -/
def posOk (s : List UInt8) : Bool := s == [48] || (s != [] && s.take 1 != [48] && decide (s.length ≤ 3))

inductive Out where
  | ok (x : Ex) (l : List UInt8)
  | stuck (l : List UInt8)
  | bad (l : List UInt8)
  | more
  | none
/-- wrong at the next token -/
def badAt (l : List UInt8) : Out := if gap l = [] then .more else .bad (gap l)
/-- what stuck behind an operand is wrong where something must follow -/
def Out.hard : Out → Out
  | .stuck l => .bad l
  | o => o
def numeral (g : List UInt8) : Out := match numOf (run isW g).1 with
  | some n => .ok (.mk [110] n [] []) (run isW g).2
  | none => .bad g
def vx (s : List UInt8) : Ex := .mk [118] 0 s []
/-- the closing brace -/
def brace (b : Bool) (g l : List UInt8) (name : List UInt8) : Out :=
  if b = true then match takeS [125] l with
    | some r => .ok (vx name) r
    | none => if skipJ l = [] then .more else .bad g
  else .ok (vx name) l
/-- behind the dollar sign and, perhaps, a brace -/
def dollarB (b : Bool) (g l : List UInt8) : Out := match skipJ l with
  | [] => .more
  | c :: r =>
    if isL c = true then (if (run isW l).1.length ≤ 64 then brace b g (run isW l).2 (run isW l).1 else .bad g)
    else if b = true ∧ isD c = true then (if posOk (run isD l).1 = true then brace b g (run isD l).2 (run isD l).1 else .bad g)
    else if isD c = true ∨ c = 35 ∨ c = 63 then brace b g r [c]
    else .bad g
def dollar (g : List UInt8) : Out := match takeS [123] (g.drop 1) with
  | some l => dollarB true g l
  | none => dollarB false g (g.drop 1)

def assigns : List (List UInt8) := [[60, 60, 61], [62, 62, 61], [42, 61], [47, 61], [37, 61], [43, 61], [45, 61], [38, 61], [94, 61], [124, 61], [61]]
def levels (n : Nat) : List (List UInt8) := ((#[[[124, 124]], [[38, 38]], [[124]], [[94]], [[38]], [[61, 61], [33, 61]], [[60, 61], [62, 61], [60], [62]], [[60, 60], [62, 62]], [[43], [45]], [[42], [47], [37]]] : Array (List (List UInt8)))[n]?).getD []
inductive Kd where
  | expr | exprL (x : Ex) | assign | choice | lev (n : Nat) | levL (n : Nat) (x : Ex) | pre | suf | prim
/-- going on behind what was read -/
def Out.bind : Out → (Ex → List UInt8 → Out) → Out
  | .ok x l, F => F x l
  | o, _ => o
/-- reading -/
def parse : Nat → Kd → List UInt8 → Out
  | 0, _, _ => .none
  | f + 1, .expr, l => (parse f .assign l).bind fun x l1 => parse f (.exprL x) l1
  | f + 1, .exprL x, l => if sg l = [44] then (parse f .assign (aft (sg l) l)).bind fun y l1 => parse f (.exprL (bx (sg l) [x, y])) l1 else .ok x (gap l)
  | f + 1, .assign, l => (parse f .choice l).bind fun x l1 =>
    if sg l1 ∈ assigns then (if target x = true then (parse f .assign (aft (sg l1) l1)).bind fun y l2 => .ok (bx (sg l1) [x, y]) l2 else badAt l1) else .ok x (gap l1)
  | f + 1, .choice, l => (parse f (.lev 0) l).bind fun x l1 =>
    if sg l1 = [63] then (parse f .expr (aft (sg l1) l1)).hard.bind fun a l2 =>
      if sg l2 = [58] then (parse f .choice (aft (sg l2) l2)).bind fun b l3 => .ok (bx [63] [x, a, b]) l3 else badAt l2
    else .ok x (gap l1)
  | f + 1, .lev n, l => if n = 10 then parse f .pre l else (parse f (.lev (n + 1)) l).bind fun x l1 => parse f (.levL n x) l1
  | f + 1, .levL n x, l => if sg l ∈ levels n then (parse f (.lev (n + 1)) (aft (sg l) l)).bind fun y l1 => parse f (.levL n (bx (sg l) [x, y])) l1 else .ok x (gap l)
  | f + 1, .pre, l =>
    if sg l = [43, 43] ∨ sg l = [45, 45] then (parse f .prim (gap (aft (sg l) l))).bind fun x l1 => if target x = true then .ok (bx (sg l ++ [118]) [x]) l1 else .bad (gap (aft (sg l) l))
    else if sg l = [45] ∨ sg l = [43] then (parse f .pre (aft (sg l) l)).bind fun x l1 => .ok (bx (117 :: sg l) [x]) l1
    else if sg l = [33] ∨ sg l = [126] then (parse f .pre (aft (sg l) l)).bind fun x l1 => .ok (bx (sg l) [x]) l1
    else parse f .suf (gap l)
  | f + 1, .suf, l => (parse f .prim l).bind fun x l1 =>
    if sg l1 = [43, 43] ∨ sg l1 = [45, 45] then (if target x = true then .ok (bx (118 :: sg l1) [x]) (aft (sg l1) l1) else .stuck (gap l1)) else .ok x (gap l1)
  | f + 1, .prim, l =>
    if sg l = [40] then (parse f .expr (aft (sg l) l)).hard.bind fun x l1 => if sg l1 = [41] then .ok x (aft (sg l1) l1) else badAt l1
    else match gap l with
      | [] => .more
      | c :: r =>
        if isD c = true then numeral (c :: r)
        else if isL c = true then (if (run isW (c :: r)).1.length ≤ 64 then
            (if sg (run isW (c :: r)).2 = [91] then (parse f .expr (aft (sg (run isW (c :: r)).2) (run isW (c :: r)).2)).hard.bind fun x l1 => if sg l1 = [93] then .ok (.mk [101] 0 (run isW (c :: r)).1 [x]) (aft (sg l1) l1) else badAt l1
            else .ok (vx (run isW (c :: r)).1) (gap (run isW (c :: r)).2))
          else .bad (c :: r))
        else if c = 36 then dollar (c :: r)
        else .bad (c :: r)

mutual
def Ex.depth : Ex → Nat
  | .mk _ _ _ l => Ex.depths l + 1
def Ex.depths : List Ex → Nat
  | [] => 0
  | x :: r => max x.depth (Ex.depths r)
end
mutual
def Ex.size : Ex → Nat
  | .mk _ _ _ l => Ex.sizes l + 1
def Ex.sizes : List Ex → Nat
  | [] => 0
  | x :: r => x.size + Ex.sizes r
end

/-- how a text is read -/
inductive Read where
  | ok (x : Ex)
  | deep
  | syn (l : List UInt8)
  | more
def arith (T : List UInt8) : Read := match (parse (40 * T.length + 40) .expr T).hard with
  | .ok x l => if gap l = [] then (if x.depth ≤ 50 then .ok x else .deep) else .syn (gap l)
  | .bad l => .syn l
  | _ => .more

end Go.Proofs.YtonejkomggpbbabGreatDoor

namespace Go.Proofs.YtonejkomggpbbabGreatDoor

theorem skipJ_len : ∀ l, (skipJ l).length ≤ l.length
  | [] => Nat.le_refl _
  | [a] => Nat.le_refl _
  | a :: b :: r => by
    unfold skipJ
    split
    · have := skipJ_len r
      simp
      omega
    · exact Nat.le_refl _
theorem gap_len : ∀ l, (gap l).length ≤ l.length
  | [] => Nat.le_refl _
  | [a] => by unfold gap; split <;> simp
  | a :: b :: r => by
    unfold gap
    split
    · have := gap_len (b :: r)
      simp at *
      omega
    · split
      · have := gap_len r
        simp
        omega
      · exact Nat.le_refl _
theorem gap_gap : ∀ l, gap (gap l) = gap l
  | [] => rfl
  | [a] => by
    by_cases h : blB a = true
    · simp [gap, h]
    · simp [gap, h]
  | a :: b :: r => by
    by_cases h : blB a = true
    · have := gap_gap (b :: r)
      simp only [gap, h, if_true]
      exact this
    · by_cases h2 : a = 92 ∧ b = 10
      · have := gap_gap r
        simp only [gap, h2]
        simpa [blB] using this
      · simp [gap, h, h2]
theorem skipJ_gap : ∀ l, skipJ (gap l) = gap l
  | [] => rfl
  | [a] => by
    by_cases h : blB a = true
    · simp [gap, h, skipJ]
    · simp [gap, h, skipJ]
  | a :: b :: r => by
    by_cases h : blB a = true
    · have := skipJ_gap (b :: r)
      simp only [gap, h, if_true]
      exact this
    · by_cases h2 : a = 92 ∧ b = 10
      · have := skipJ_gap r
        obtain ⟨rfl, rfl⟩ := h2
        have hb : blB 92 = false := by decide
        simpa [gap, hb] using this
      · simp [gap, h, h2, skipJ]
theorem gap_skipJ : ∀ l, gap (skipJ l) = gap l
  | [] => rfl
  | [a] => rfl
  | a :: b :: r => by
    unfold skipJ
    split
    · rename_i h
      obtain ⟨rfl, rfl⟩ := h
      have := gap_skipJ r
      have hb : blB 92 = false := by decide
      simp [gap, hb, this]
    · rfl
theorem skipJ_skipJ : ∀ l, skipJ (skipJ l) = skipJ l
  | [] => rfl
  | [a] => rfl
  | a :: b :: r => by
    by_cases h : a = 92 ∧ b = 10
    · have := skipJ_skipJ r
      simp [skipJ, h, this]
    · simp [skipJ, h]
theorem takeS_len : ∀ (s l r : List UInt8), takeS s l = some r → r.length + s.length ≤ l.length
  | [], l, r, h => by
    have : l = r := by simpa [takeS] using h
    subst this
    simp
  | c :: s, l, r, h => by
    unfold takeS at h
    have hl := skipJ_len l
    cases hs : skipJ l with
    | nil => rw [hs] at h; cases h
    | cons d t =>
      rw [hs] at h hl
      by_cases hd : d = c
      · have := takeS_len s t r (by simpa [hd] using h)
        simp at *
        omega
      · simp [hd] at h
theorem sg_gap (l : List UInt8) : sg (gap l) = sg l := by unfold sg; rw [gap_gap]
theorem aft_gap (s l : List UInt8) : aft s (gap l) = aft s l := by unfold aft; rw [gap_gap]
/-- a sign is one of the list, and it is taken -/
theorem sg_some {l : List UInt8} (h : sg l ≠ []) : sg l ∈ signs ∧ takeS (sg l) (gap l) = some (aft (sg l) l) := by
  unfold sg at h ⊢
  cases hf : signs.find? fun s => (takeS s (gap l)).isSome with
  | none => rw [hf] at h; exact absurd rfl h
  | some s =>
    have h1 := List.mem_of_find?_eq_some hf
    have h2 := List.find?_some hf
    refine ⟨h1, ?_⟩
    show takeS s (gap l) = some ((takeS s (gap l)).getD [])
    cases ht : takeS s (gap l) with
    | none => rw [ht] at h2; cases h2
    | some r => rfl
theorem aft_len {l : List UInt8} (h : sg l ≠ []) : (aft (sg l) l).length + 1 ≤ l.length := by
  have h1 := takeS_len _ _ _ (sg_some h).2
  have h2 := gap_len l
  have h3 : 1 ≤ (sg l).length := List.length_pos_iff.2 h
  omega
theorem aft_len' {s l : List UInt8} (hs : s ≠ []) (h : sg l = s) : (aft s l).length + 1 ≤ l.length := by
  subst h
  exact aft_len hs
theorem run_len (q : UInt8 → Bool) : ∀ l, (run q l).2.length + (run q l).1.length ≤ l.length
  | [] => Nat.le_refl _
  | [a] => by unfold run; split <;> simp
  | a :: b :: r => by
    unfold run
    split
    · have := run_len q r
      simp
      omega
    · split
      · have := run_len q (b :: r)
        simp at *
        omega
      · simp
theorem gap_nil_or (l : List UInt8) : gap l = [] ∨ ∃ c r, gap l = c :: r ∧ ¬ (c = 92 ∧ r.take 1 = [10]) ∧ blB c = false := by
  have h1 := gap_gap l
  cases hg : gap l with
  | nil => exact .inl rfl
  | cons c r =>
    right
    rw [hg] at h1
    have hl : ∀ m, (gap m).length ≤ m.length := gap_len
    refine ⟨c, r, rfl, fun h => ?_, ?_⟩
    · obtain ⟨rfl, h2⟩ := h
      cases r with
      | nil => cases h2
      | cons b t =>
        have hb : b = 10 := by simpa using h2
        subst hb
        have e : gap (92 :: 10 :: t) = gap t := by simp [gap, blB]
        rw [e] at h1
        have := hl t
        rw [h1] at this
        simp at this
        omega
    · cases hb : blB c with
      | false => rfl
      | true =>
        cases r with
        | nil => simp [gap, hb] at h1
        | cons b t =>
          have e : gap (c :: b :: t) = gap (b :: t) := by simp [gap, hb]
          rw [e] at h1
          have := hl (b :: t)
          rw [h1] at this
          simp at this
          omega

/-- a kind that reads at least one byte -/
def Kd.first : Kd → Prop
  | .exprL _ => False
  | .levL _ _ => False
  | _ => True
def Kd.acc : Kd → Nat
  | .exprL x => x.size
  | .levL _ x => x.size
  | _ => 0
/-- what is read: fewer bytes, no more parts than bytes -/
def Less (K : Kd) (l : List UInt8) : Out → Prop
  | .ok x l1 => x.size + l1.length ≤ K.acc + l.length ∧ l1.length ≤ l.length ∧ (K.first → l1.length < l.length)
  | .stuck l1 => (sg l1 = [43, 43] ∨ sg l1 = [45, 45]) ∧ gap l1 = l1 ∧ l1.length ≤ l.length
  | .bad l1 => l1.length ≤ l.length
  | _ => True
theorem size_pos (x : Ex) : 1 ≤ x.size := by
  cases x
  unfold Ex.size
  omega
theorem bx_size (s : List UInt8) (l : List Ex) : (bx s l).size = Ex.sizes l + 1 := by unfold bx Ex.size; rfl
theorem sizes1 (x : Ex) : Ex.sizes [x] = x.size := by simp [Ex.sizes]
theorem sizes2 (x y : Ex) : Ex.sizes [x, y] = x.size + y.size := by simp [Ex.sizes]
theorem sizes3 (x y z : Ex) : Ex.sizes [x, y, z] = x.size + y.size + z.size := by simp [Ex.sizes]; omega
theorem sizes0 (o : List UInt8) (n : Int) (m : List UInt8) : (Ex.mk o n m []).size = 1 := by simp [Ex.size, Ex.sizes]
theorem brace_less (b : Bool) (g l name : List UInt8) (h : l.length < g.length) : Less .prim g (brace b g l name) := by
  unfold brace
  split
  · split
    · rename_i r hr
      have := takeS_len _ _ _ hr
      have h3 : r.length < g.length := by
        simp at this
        omega
      refine ⟨?_, by omega, fun _ => h3⟩
      unfold vx
      rw [sizes0]
      simp [Kd.acc] at *
      omega
    · split
      · trivial
      · exact Nat.le_refl _
  · refine ⟨?_, by omega, fun _ => h⟩
    unfold vx
    rw [sizes0]
    simp [Kd.acc]
    omega
theorem dollarB_less (b : Bool) (g l : List UInt8) (h : l.length < g.length) : Less .prim g (dollarB b g l) := by
  unfold dollarB
  have hs := skipJ_len l
  cases hl : skipJ l with
  | nil => trivial
  | cons c r =>
    rw [hl] at hs
    have h1 := run_len isW l
    have h2 := run_len isD l
    simp only
    split
    · split
      · exact brace_less _ _ _ _ (by omega)
      · exact Nat.le_refl _
    · split
      · split
        · exact brace_less _ _ _ _ (by omega)
        · exact Nat.le_refl _
      · split
        · exact brace_less _ _ _ _ (by simp at hs; omega)
        · exact Nat.le_refl _
theorem dollar_less (g : List UInt8) (h : g ≠ []) : Less .prim g (dollar g) := by
  have hp : 1 ≤ g.length := List.length_pos_iff.2 h
  have hd : (g.drop 1).length < g.length := by simp; omega
  unfold dollar
  split
  · rename_i l hl
    have := takeS_len _ _ _ hl
    exact dollarB_less _ _ _ (by simp at *; omega)
  · exact dollarB_less _ _ _ hd
theorem Less.up {K : Kd} {l g : List UInt8} {o : Out} (h : Less .prim g o) (hg : g.length ≤ l.length) (hK : K.acc = 0) : Less K l o := by
  cases o with
  | ok x l1 =>
    have h1 := h.1
    have h2 := h.2.2 trivial
    refine ⟨?_, by omega, fun _ => by omega⟩
    rw [hK]
    have : Kd.acc .prim = 0 := rfl
    omega
  | stuck l1 => exact ⟨h.1, h.2.1, Nat.le_trans h.2.2 hg⟩
  | bad l1 => exact Nat.le_trans h hg
  | more => trivial
  | none => trivial
theorem badAt_less (K : Kd) (l l1 : List UInt8) (h : l1.length ≤ l.length) : Less K l (badAt l1) := by
  unfold badAt
  have := gap_len l1
  split
  · trivial
  · exact Nat.le_trans this h

theorem hard_less {K : Kd} {l : List UInt8} {o : Out} (h : Less K l o) : Less K l o.hard := by
  cases o with
  | stuck l1 => exact h.2.2
  | ok x l1 => exact h
  | bad l1 => exact h
  | more => exact h
  | none => exact h

end Go.Proofs.YtonejkomggpbbabGreatDoor

namespace Go.Proofs.YtonejkomggpbbabGreatDoor

theorem Less.bind {K K' : Kd} {l g : List UInt8} {o : Out} {F : Ex → List UInt8 → Out} (h : Less K' g o) (hg : g.length ≤ l.length) (hF : ∀ x l1, Less K' g (.ok x l1) → Less K l (F x l1)) : Less K l (o.bind F) := by
  cases o with
  | ok x l1 => exact hF x l1 h
  | stuck l1 => exact ⟨h.1, h.2.1, Nat.le_trans h.2.2 hg⟩
  | bad l1 => exact Nat.le_trans h hg
  | more => trivial
  | none => trivial
theorem levels_ne (n : Nat) : [] ∉ levels n := by
  have hh : n = 0 ∨ n = 1 ∨ n = 2 ∨ n = 3 ∨ n = 4 ∨ n = 5 ∨ n = 6 ∨ n = 7 ∨ n = 8 ∨ n = 9 ∨ 10 ≤ n := by omega
  rcases hh with rfl | rfl | rfl | rfl | rfl | rfl | rfl | rfl | rfl | rfl | h
  all_goals first | decide | skip
  unfold levels
  rw [Array.getElem?_eq_none (by simpa using h)]
  simp
theorem sg_mem {l : List UInt8} {L : List (List UInt8)} (h : sg l ∈ L) (hL : [] ∉ L) : sg l ≠ [] := fun e => hL (e ▸ h)
theorem sg_is {l s : List UInt8} (h : sg l = s) (hs : s ≠ []) : sg l ≠ [] := fun e => hs (h ▸ e)
theorem less_loop {l : List UInt8} {x y : Ex} {K : Kd} {l1 : List UInt8} (K' : Kd) (_hx : K.acc = x.size) (h : Less K' (aft (sg l) l) (.ok y l1)) (hs : sg l ≠ []) (hK : K'.acc = 0) : (bx (sg l) [x, y]).size + l1.length ≤ K.acc + l.length ∧ l1.length ≤ l.length := by
  have h1 := aft_len hs
  have h2 := h.1
  have h3 := h.2.1
  rw [bx_size, sizes2]
  omega
/-- what a loop makes of what it was begun with -/
theorem Less.loop {K K' : Kd} {l l1 : List UInt8} {o : Out} (h : Less K' l1 o) (_hK' : ¬ K'.first) (hs : K'.acc + l1.length ≤ K.acc + l.length) (hl : l1.length ≤ l.length) (hf : K.first → l1.length < l.length) : Less K l o := by
  cases o with
  | ok x l2 =>
    have h1 := h.1
    have h2 := h.2.1
    exact ⟨by omega, by omega, fun hk => by have := hf hk; omega⟩
  | stuck l1 => exact ⟨h.1, h.2.1, Nat.le_trans h.2.2 hl⟩
  | bad l1 => exact Nat.le_trans h hl
  | more => trivial
  | none => trivial

theorem Less.up2 {K K' : Kd} {l g : List UInt8} {o : Out} (h : Less K' g o) (hf : K'.first) (hg : g.length ≤ l.length) (hK' : K'.acc = 0) (hK : K.acc = 0) : Less K l o := by
  cases o with
  | ok x l1 =>
    have h1 := h.1
    have h2 := h.2.2 hf
    exact ⟨by omega, by omega, fun _ => by omega⟩
  | stuck l1 => exact ⟨h.1, h.2.1, Nat.le_trans h.2.2 hg⟩
  | bad l1 => exact Nat.le_trans h hg
  | more => trivial
  | none => trivial
theorem run_head (q : UInt8 → Bool) (c : UInt8) (r : List UInt8) (h : q c = true) (hc : c ≠ 92) : 1 ≤ (run q (c :: r)).1.length := by
  cases r with
  | nil => simp [run, h]
  | cons b t => simp [run, h, hc]
set_option maxHeartbeats 1000000 in
theorem parse_less : ∀ (f : Nat) (K : Kd) (l : List UInt8), Less K l (parse f K l) := by
  intro f
  induction f with
  | zero => intro K l; trivial
  | succ f ih =>
    intro K l
    have hgl := gap_len l
    cases K with
    | expr =>
      refine (ih .assign l).bind (Nat.le_refl _) fun x l1 h => ?_
      refine (ih (.exprL x) l1).loop (fun h => h) ?_ h.2.1 (fun _ => h.2.2 trivial)
      exact h.1
    | exprL x =>
      unfold parse
      split
      · rename_i hs
        have h0 := sg_is hs (by decide)
        have ha := aft_len h0
        refine (ih .assign (aft (sg l) l)).bind (by omega) fun y l1 h => ?_
        have h2 := less_loop (K := .exprL x) .assign rfl h h0 rfl
        exact (ih (.exprL _) l1).loop (fun h => h) h2.1 h2.2 (fun h => h.elim)
      · exact ⟨by show x.size + _ ≤ x.size + _; omega, hgl, fun h => h.elim⟩
    | assign =>
      refine (ih .choice l).bind (Nat.le_refl _) fun x l1 h => ?_
      have h1 := h.1
      have h2 := h.2.2 trivial
      have hg1 := gap_len l1
      split
      · rename_i hs
        have h0 := sg_mem hs (by decide)
        have ha := aft_len h0
        split
        · refine (ih .assign (aft (sg l1) l1)).bind (by omega) fun y l2 h' => ?_
          have h3 := h'.1
          have h4 := h'.2.2 trivial
          refine ⟨?_, by omega, fun _ => by omega⟩
          rw [bx_size, sizes2]
          have e1 : Kd.acc .assign = 0 := rfl
          have e2 : Kd.acc .choice = 0 := rfl
          omega
        · exact badAt_less _ _ _ (by omega)
      · refine ⟨?_, by omega, fun _ => by omega⟩
        have e1 : Kd.acc .assign = 0 := rfl
        have e2 : Kd.acc .choice = 0 := rfl
        omega
    | choice =>
      refine (ih (.lev 0) l).bind (Nat.le_refl _) fun x l1 h => ?_
      have h1 := h.1
      have h2 := h.2.2 trivial
      have hg1 := gap_len l1
      have e1 : Kd.acc .choice = 0 := rfl
      have e2 : Kd.acc (.lev 0) = 0 := rfl
      have e3 : Kd.acc .expr = 0 := rfl
      split
      · rename_i hs
        have h0 := sg_is hs (by decide)
        have ha := aft_len h0
        refine (hard_less (ih .expr (aft (sg l1) l1))).bind (by omega) fun a l2 h' => ?_
        have h3 := h'.1
        have h4 := h'.2.2 trivial
        split
        · rename_i hs2
          have h02 := sg_is hs2 (by decide)
          have ha2 := aft_len h02
          refine (ih .choice (aft (sg l2) l2)).bind (by omega) fun b l3 h'' => ?_
          have h5 := h''.1
          have h6 := h''.2.2 trivial
          refine ⟨?_, by omega, fun _ => by omega⟩
          rw [bx_size, sizes3]
          omega
        · exact badAt_less _ _ _ (by omega)
      · exact ⟨by omega, by omega, fun _ => by omega⟩
    | lev n =>
      unfold parse
      split
      · have h := ih .pre l
        exact h.up2 trivial (Nat.le_refl _) rfl rfl
      · refine (ih (.lev (n + 1)) l).bind (Nat.le_refl _) fun x l1 h => ?_
        exact (ih (.levL n x) l1).loop (fun h => h) h.1 h.2.1 (fun _ => h.2.2 trivial)
    | levL n x =>
      unfold parse
      split
      · rename_i hs
        have h0 := sg_mem hs (levels_ne n)
        have ha := aft_len h0
        refine (ih (.lev (n + 1)) (aft (sg l) l)).bind (by omega) fun y l1 h => ?_
        have h2 := less_loop (K := .levL n x) (.lev (n + 1)) rfl h h0 rfl
        exact (ih (.levL n _) l1).loop (fun h => h) h2.1 h2.2 (fun h => h.elim)
      · exact ⟨by show x.size + _ ≤ x.size + _; omega, hgl, fun h => h.elim⟩
    | pre =>
      have e1 : Kd.acc .pre = 0 := rfl
      have e2 : Kd.acc .prim = 0 := rfl
      unfold parse
      split
      · rename_i hs
        have h0 : sg l ≠ [] := by rcases hs with hs | hs <;> exact sg_is hs (by decide)
        have ha := aft_len h0
        have hga := gap_len (aft (sg l) l)
        refine (ih .prim (gap (aft (sg l) l))).bind (by omega) fun x l1 h => ?_
        have h3 := h.1
        have h4 := h.2.2 trivial
        split
        · refine ⟨?_, by omega, fun _ => by omega⟩
          rw [bx_size, sizes1]
          omega
        · show (gap (aft (sg l) l)).length ≤ l.length
          omega
      · split
        · rename_i hs
          have h0 : sg l ≠ [] := by rcases hs with hs | hs <;> exact sg_is hs (by decide)
          have ha := aft_len h0
          refine (ih .pre (aft (sg l) l)).bind (by omega) fun x l1 h => ?_
          have h3 := h.1
          have h4 := h.2.2 trivial
          refine ⟨?_, by omega, fun _ => by omega⟩
          rw [bx_size, sizes1]
          omega
        · split
          · rename_i hs
            have h0 : sg l ≠ [] := by rcases hs with hs | hs <;> exact sg_is hs (by decide)
            have ha := aft_len h0
            refine (ih .pre (aft (sg l) l)).bind (by omega) fun x l1 h => ?_
            have h3 := h.1
            have h4 := h.2.2 trivial
            refine ⟨?_, by omega, fun _ => by omega⟩
            rw [bx_size, sizes1]
            omega
          · have h := ih .suf (gap l)
            exact h.up2 trivial hgl rfl rfl
    | suf =>
      have e1 : Kd.acc .suf = 0 := rfl
      have e2 : Kd.acc .prim = 0 := rfl
      refine (ih .prim l).bind (Nat.le_refl _) fun x l1 h => ?_
      have h3 := h.1
      have h4 := h.2.2 trivial
      have hg1 := gap_len l1
      split
      · rename_i hs
        have h0 : sg l1 ≠ [] := by rcases hs with hs | hs <;> exact sg_is hs (by decide)
        have ha := aft_len h0
        split
        · refine ⟨?_, by omega, fun _ => by omega⟩
          rw [bx_size, sizes1]
          omega
        · refine ⟨by rw [sg_gap]; exact hs, gap_gap l1, by omega⟩
      · exact ⟨by omega, by omega, fun _ => by omega⟩
    | prim =>
      have e1 : Kd.acc .expr = 0 := rfl
      have e2 : Kd.acc .prim = 0 := rfl
      unfold parse
      split
      · rename_i hs
        have h0 := sg_is hs (by decide)
        have ha := aft_len h0
        refine (hard_less (ih .expr (aft (sg l) l))).bind (by omega) fun x l1 h => ?_
        have h3 := h.1
        have h4 := h.2.2 trivial
        split
        · rename_i hs2
          have ha2 := aft_len (sg_is hs2 (by decide))
          exact ⟨by omega, by omega, fun _ => by omega⟩
        · exact badAt_less _ _ _ (by omega)
      · split
        · trivial
        · rename_i c r hg
          rw [hg] at hgl
          have hr := run_len isW (c :: r)
          split
          · rename_i hd
            unfold numeral
            split
            · rename_i n hn
              have h1 := run_head isW c r (by unfold isW; rw [hd]; simp) (fun e => by rw [e] at hd; exact absurd hd (by decide))
              refine ⟨?_, by omega, fun _ => by omega⟩
              rw [sizes0]
              omega
            · exact hgl
          · split
            · rename_i hd
              have h1 := run_head isW c r (by unfold isW; rw [hd]; simp) (fun e => by rw [e] at hd; exact absurd hd (by decide))
              split
              · split
                · rename_i hs2
                  have ha := aft_len (sg_is hs2 (by decide))
                  refine (hard_less (ih .expr _)).bind (by omega) fun x l1 h => ?_
                  have h3 := h.1
                  have h4 := h.2.2 trivial
                  split
                  · rename_i hs3
                    have ha3 := aft_len (sg_is hs3 (by decide))
                    refine ⟨?_, by omega, fun _ => by omega⟩
                    rw [show (Ex.mk [101] 0 (run isW (c :: r)).1 [x]).size = x.size + 1 by simp [Ex.size, Ex.sizes]]
                    omega
                  · exact badAt_less _ _ _ (by omega)
                · have := gap_len (run isW (c :: r)).2
                  refine ⟨?_, by omega, fun _ => by omega⟩
                  unfold vx
                  rw [sizes0]
                  omega
              · exact hgl
            · split
              · exact (dollar_less (c :: r) (by simp)).up hgl rfl
              · exact hgl

def Kd.rank : Kd → Nat
  | .expr => 17
  | .assign => 16
  | .choice => 15
  | .lev n => 14 - n
  | .pre => 3
  | .suf => 2
  | _ => 1
def Kd.fine : Kd → Prop
  | .lev n => n ≤ 10
  | .levL n _ => n < 10
  | _ => True
theorem bind_some {o : Out} {F : Ex → List UInt8 → Out} (h : o ≠ .none) (hF : ∀ x l1, o = .ok x l1 → F x l1 ≠ .none) : o.bind F ≠ .none := by
  cases o with
  | ok x l1 => exact hF x l1 rfl
  | stuck l1 => exact fun h => by cases h
  | bad l1 => exact fun h => by cases h
  | more => exact fun h => by cases h
  | none => exact absurd rfl h
theorem hard_some {o : Out} (h : o ≠ .none) : o.hard ≠ .none := by
  cases o with
  | none => exact absurd rfl h
  | _ => exact fun h => by cases h
theorem badAt_some (l : List UInt8) : badAt l ≠ .none := by
  unfold badAt
  split <;> exact fun h => by cases h
theorem brace_some (b : Bool) (g l n : List UInt8) : brace b g l n ≠ .none := by
  unfold brace
  split
  · split
    · exact fun h => by cases h
    · split <;> exact fun h => by cases h
  · exact fun h => by cases h
theorem dollar_some (g : List UInt8) : dollar g ≠ .none := by
  have hB : ∀ b l, dollarB b g l ≠ .none := fun b l => by
    unfold dollarB
    split
    · exact fun h => by cases h
    · split
      · split
        · exact brace_some _ _ _ _
        · exact fun h => by cases h
      · split
        · split
          · exact brace_some _ _ _ _
          · exact fun h => by cases h
        · split
          · exact brace_some _ _ _ _
          · exact fun h => by cases h
  unfold dollar
  split <;> exact hB _ _
theorem less_of {f : Nat} {K : Kd} {l : List UInt8} {x : Ex} {l1 : List UInt8} (h : parse f K l = .ok x l1) : l1.length ≤ l.length ∧ (K.first → l1.length < l.length) := by
  have := parse_less f K l
  rw [h] at this
  exact this.2
theorem less_hard {f : Nat} {K : Kd} {l : List UInt8} {x : Ex} {l1 : List UInt8} (h : (parse f K l).hard = .ok x l1) : l1.length ≤ l.length ∧ (K.first → l1.length < l.length) := by
  have := hard_less (parse_less f K l)
  rw [h] at this
  exact this.2
set_option maxHeartbeats 1000000 in
theorem parse_some : ∀ (f : Nat) (K : Kd) (l : List UInt8), K.fine → 40 * l.length + K.rank ≤ f → parse f K l ≠ .none := by
  intro f
  induction f with
  | zero =>
    intro K l hK h
    cases K <;> simp [Kd.rank, Kd.fine] at * <;> omega
  | succ f ih =>
    intro K l hK hf
    have hgl := gap_len l
    cases K with
    | expr =>
      have e : Kd.rank .expr = 17 := rfl
      refine bind_some (ih .assign l trivial (by have : Kd.rank .assign = 16 := rfl; omega)) fun x l1 h => ?_
      have h1 := (less_of h).2 trivial
      exact ih _ _ trivial (by have : Kd.rank (.exprL x) = 1 := rfl; omega)
    | exprL x =>
      have e : Kd.rank (.exprL x) = 1 := rfl
      unfold parse
      split
      · rename_i hs
        have ha := aft_len (sg_is hs (by decide))
        refine bind_some (ih .assign _ trivial (by have : Kd.rank .assign = 16 := rfl; omega)) fun y l1 h => ?_
        have h1 := (less_of h).2 trivial
        exact ih _ _ trivial (by have : Kd.rank (.exprL (bx (sg l) [x, y])) = 1 := rfl; omega)
      · exact fun h => by cases h
    | assign =>
      have e : Kd.rank .assign = 16 := rfl
      refine bind_some (ih .choice l trivial (by have : Kd.rank .choice = 15 := rfl; omega)) fun x l1 h => ?_
      have h1 := (less_of h).2 trivial
      split
      · rename_i hs
        have ha := aft_len (sg_mem hs (by decide))
        split
        · refine bind_some (ih .assign _ trivial (by omega)) fun y l2 h' => ?_
          exact fun h => by cases h
        · exact badAt_some _
      · exact fun h => by cases h
    | choice =>
      have e : Kd.rank .choice = 15 := rfl
      refine bind_some (ih (.lev 0) l (Nat.zero_le _) (by have : Kd.rank (.lev 0) = 14 := rfl; omega)) fun x l1 h => ?_
      have h1 := (less_of h).2 trivial
      split
      · rename_i hs
        have ha := aft_len (sg_is hs (by decide))
        refine bind_some (hard_some (ih .expr _ trivial (by have : Kd.rank .expr = 17 := rfl; omega))) fun a l2 h' => ?_
        have h2 := (less_hard h').2 trivial
        split
        · rename_i hs2
          have ha2 := aft_len (sg_is hs2 (by decide))
          refine bind_some (ih .choice _ trivial (by omega)) fun b l3 h'' => ?_
          exact fun h => by cases h
        · exact badAt_some _
      · exact fun h => by cases h
    | lev n =>
      have hn : n ≤ 10 := hK
      have e : Kd.rank (.lev n) = 14 - n := rfl
      unfold parse
      split
      · exact ih .pre l trivial (by have : Kd.rank .pre = 3 := rfl; omega)
      · refine bind_some (ih (.lev (n + 1)) l (show n + 1 ≤ 10 by omega) (by have : Kd.rank (.lev (n + 1)) = 14 - (n + 1) := rfl; omega)) fun x l1 h => ?_
        have h1 := (less_of h).2 trivial
        exact ih _ _ (show n < 10 by omega) (by have : Kd.rank (.levL n x) = 1 := rfl; omega)
    | levL n x =>
      have hn : n < 10 := hK
      have e : Kd.rank (.levL n x) = 1 := rfl
      unfold parse
      split
      · rename_i hs
        have ha := aft_len (sg_mem hs (levels_ne n))
        refine bind_some (ih (.lev (n + 1)) _ (show n + 1 ≤ 10 by omega) (by have : Kd.rank (.lev (n + 1)) = 14 - (n + 1) := rfl; omega)) fun y l1 h => ?_
        have h1 := (less_of h).2 trivial
        exact ih _ _ hK (by have : Kd.rank (.levL n (bx (sg l) [x, y])) = 1 := rfl; omega)
      · exact fun h => by cases h
    | pre =>
      have e : Kd.rank .pre = 3 := rfl
      unfold parse
      split
      · rename_i hs
        have ha := aft_len (show sg l ≠ [] by rcases hs with hs | hs <;> exact sg_is hs (by decide))
        have hga := gap_len (aft (sg l) l)
        refine bind_some (ih .prim _ trivial (by have : Kd.rank .prim = 1 := rfl; omega)) fun x l1 h => ?_
        split <;> exact fun h => by cases h
      · split
        · rename_i hs
          have ha := aft_len (show sg l ≠ [] by rcases hs with hs | hs <;> exact sg_is hs (by decide))
          refine bind_some (ih .pre _ trivial (by omega)) fun x l1 h => ?_
          exact fun h => by cases h
        · split
          · rename_i hs
            have ha := aft_len (show sg l ≠ [] by rcases hs with hs | hs <;> exact sg_is hs (by decide))
            refine bind_some (ih .pre _ trivial (by omega)) fun x l1 h => ?_
            exact fun h => by cases h
          · exact ih .suf _ trivial (by have : Kd.rank .suf = 2 := rfl; omega)
    | suf =>
      have e : Kd.rank .suf = 2 := rfl
      refine bind_some (ih .prim l trivial (by have : Kd.rank .prim = 1 := rfl; omega)) fun x l1 h => ?_
      split
      · split <;> exact fun h => by cases h
      · exact fun h => by cases h
    | prim =>
      have e : Kd.rank .prim = 1 := rfl
      have e2 : Kd.rank .expr = 17 := rfl
      unfold parse
      split
      · rename_i hs
        have ha := aft_len (sg_is hs (by decide))
        refine bind_some (hard_some (ih .expr _ trivial (by omega))) fun x l1 h => ?_
        split
        · exact fun h => by cases h
        · exact badAt_some _
      · split
        · exact fun h => by cases h
        · rename_i c r hg
          rw [hg] at hgl
          have hr := run_len isW (c :: r)
          split
          · unfold numeral
            split <;> exact fun h => by cases h
          · split
            · split
              · split
                · rename_i hs2
                  have ha := aft_len (sg_is hs2 (by decide))
                  refine bind_some (hard_some (ih .expr _ trivial (by omega))) fun x l1 h => ?_
                  split
                  · exact fun h => by cases h
                  · exact badAt_some _
                · exact fun h => by cases h
              · exact fun h => by cases h
            · split
              · exact dollar_some _
              · exact fun h => by cases h
/-- reading a whole text ends -/
theorem arith_some (T : List UInt8) : (parse (40 * T.length + 40) .expr T).hard ≠ .none := hard_some (parse_some _ _ _ trivial (by have : Kd.rank .expr = 17 := rfl; omega))

end Go.Proofs.YtonejkomggpbbabGreatDoor

namespace Go.Proofs.YtonejkomggpbbabGreatDoor

/-- a text without what is left out -/
def strip : List UInt8 → List UInt8
  | [] => []
  | [a] => [a]
  | a :: b :: r => if a = 92 ∧ b = 10 then strip r else a :: strip (b :: r)
theorem skipJ_strip : ∀ l, (skipJ l = [] ∧ strip l = []) ∨ ∃ c r, skipJ l = c :: r ∧ strip l = c :: strip r
  | [] => .inl ⟨rfl, rfl⟩
  | [a] => .inr ⟨a, [], rfl, rfl⟩
  | a :: b :: r => by
    by_cases h : a = 92 ∧ b = 10
    · have := skipJ_strip r
      simpa [skipJ, strip, h] using this
    · exact .inr ⟨a, b :: r, by simp [skipJ, h], by simp [strip, h]⟩
theorem takeS_strip : ∀ (s l : List UInt8), (takeS s l).isSome = s.isPrefixOf (strip l)
  | [], l => by simp [takeS]
  | c :: s, l => by
    unfold takeS
    rcases skipJ_strip l with ⟨h1, h2⟩ | ⟨d, r, h1, h2⟩
    · rw [h1, h2]
      rfl
    · rw [h1, h2]
      by_cases hd : d = c
      · have := takeS_strip s r
        subst hd
        simpa [List.isPrefixOf] using this
      · have hd2 : ¬ c = d := fun e => hd e.symm
        simp [List.isPrefixOf, hd, hd2]
theorem find_first {P : List UInt8 → Bool} : ∀ {A : List (List UInt8)} {s t : List UInt8}, A.Pairwise (fun x y => ¬ x <+: y) → A.find? P = some s → t ∈ A → P t = true → t ≠ s → ¬ s <+: t
  | [], _, _, _, h, _, _, _ => by cases h
  | a :: A, s, t, hp, h, ht, hP, hne => by
    rw [List.pairwise_cons] at hp
    by_cases ha : P a = true
    · have e : a = s := by simpa [List.find?_cons, ha] using h
      subst e
      rcases List.mem_cons.1 ht with rfl | ht
      · exact absurd rfl hne
      · exact hp.1 t ht
    · have h2 : A.find? P = some s := by simpa [List.find?_cons, ha] using h
      rcases List.mem_cons.1 ht with rfl | ht
      · exact absurd hP ha
      · exact find_first hp.2 h2 ht hP hne
theorem find_same {E : List UInt8} {A B : List (List UInt8)} (hA : A.Pairwise (fun x y => ¬ x <+: y)) (hB : B.Pairwise (fun x y => ¬ x <+: y)) (hm : ∀ s, s ∈ A ↔ s ∈ B) : A.find? (·.isPrefixOf E) = B.find? (·.isPrefixOf E) := by
  cases ha : A.find? (·.isPrefixOf E) with
  | none =>
    symm
    rw [List.find?_eq_none] at ha ⊢
    exact fun x hx => ha x ((hm x).2 hx)
  | some s =>
    have h1 := List.mem_of_find?_eq_some ha
    have h2 := List.find?_some ha
    cases hb : B.find? (·.isPrefixOf E) with
    | none =>
      rw [List.find?_eq_none] at hb
      exact absurd h2 (hb s ((hm s).1 h1))
    | some t =>
      have k1 := List.mem_of_find?_eq_some hb
      have k2 := List.find?_some hb
      by_cases e : t = s
      · rw [e]
      · exfalso
        have p1 : s <+: E := List.isPrefixOf_iff_prefix.1 h2
        have p2 : t <+: E := List.isPrefixOf_iff_prefix.1 k2
        have q1 := find_first hA ha ((hm t).2 k1) k2 e
        have q2 := find_first hB hb ((hm s).1 h1) h2 (fun h => e h.symm)
        rcases Nat.le_total s.length t.length with h | h
        · exact q1 (List.prefix_of_prefix_length_le p1 p2 h)
        · exact q2 (List.prefix_of_prefix_length_le p2 p1 h)
/-- the signs in the order of the reference -/
def rsigns : List (List UInt8) := [[60, 60, 61], [62, 62, 61], [43, 43], [45, 45], [60, 60], [62, 62], [60, 61], [62, 61], [61, 61], [33, 61], [38, 38], [124, 124], [42, 61], [47, 61], [37, 61], [43, 61], [45, 61], [38, 61], [94, 61], [124, 61],
  [42], [47], [37], [43], [45], [60], [62], [38], [94], [124], [33], [126], [63], [58], [61], [44], [40], [41], [91], [93]]
theorem signs_far : signs.Pairwise (fun x y => ¬ x <+: y) := by
  have h : signs.Pairwise (fun x y => x.isPrefixOf y = false) := by decide +kernel
  exact h.imp fun {a b} hab hp => by rw [List.isPrefixOf_iff_prefix.2 hp] at hab; cases hab
theorem rsigns_far : rsigns.Pairwise (fun x y => ¬ x <+: y) := by
  have h : rsigns.Pairwise (fun x y => x.isPrefixOf y = false) := by decide +kernel
  exact h.imp fun {a b} hab hp => by rw [List.isPrefixOf_iff_prefix.2 hp] at hab; cases hab
theorem signs_same (s : List UInt8) : s ∈ signs ↔ s ∈ rsigns := by
  have h1 : ∀ s ∈ signs, s ∈ rsigns := by decide +kernel
  have h2 : ∀ s ∈ rsigns, s ∈ signs := by decide +kernel
  exact ⟨h1 s, h2 s⟩
theorem sg_ref (l : List UInt8) : sg l = (rsigns.find? fun s => (takeS s (gap l)).isSome).getD [] := by
  unfold sg
  have e : (fun s => (takeS s (gap l)).isSome) = fun s => List.isPrefixOf s (strip (gap l)) := by
    funext s
    exact takeS_strip s _
  rw [e, find_same signs_far rsigns_far signs_same]

/-- blanks ahead do not matter -/
theorem parse_gap : ∀ (f : Nat) (K : Kd) (l : List UInt8), K.first → parse f K (gap l) = parse f K l := by
  intro f
  induction f with
  | zero => intro K l _; rfl
  | succ f ih =>
    intro K l hK
    cases K with
    | expr => unfold parse; rw [ih .assign l trivial]
    | exprL x => exact hK.elim
    | assign => unfold parse; rw [ih .choice l trivial]
    | choice => unfold parse; rw [ih (.lev 0) l trivial]
    | lev n => unfold parse; rw [ih (.lev (n + 1)) l trivial, ih .pre l trivial]
    | levL n x => exact hK.elim
    | pre => unfold parse; rw [sg_gap, aft_gap, gap_gap]
    | suf => unfold parse; rw [ih .prim l trivial]
    | prim => unfold parse; rw [sg_gap, aft_gap, gap_gap]
/-- the depth is at most the size -/
theorem parse_parts {T : List UInt8} {x : Ex} {l : List UInt8} {f : Nat} (h : parse f .expr T = .ok x l) : x.size ≤ T.length := by
  have := parse_less f .expr T
  rw [h] at this
  have h1 := this.1
  have e : Kd.acc .expr = 0 := rfl
  omega

end Go.Proofs.YtonejkomggpbbabGreatDoor

namespace Go.Proofs.YtonejkomggpbbabGreatDoor

/-- reading, as the reference does it: an operand with ++ or -- behind it that is no target is handed back -/
def parseR : Nat → Kd → List UInt8 → Out
  | 0, _, _ => .none
  | f + 1, .expr, l => (parseR f .assign l).bind fun x l1 => parseR f (.exprL x) l1
  | f + 1, .exprL x, l => if sg l = [44] then (parseR f .assign (aft (sg l) l)).bind fun y l1 => parseR f (.exprL (bx (sg l) [x, y])) l1 else .ok x (gap l)
  | f + 1, .assign, l => (parseR f .choice (gap l)).bind fun x l1 =>
    if sg l1 ∈ assigns then (if target x = true then (parseR f .assign (aft (sg l1) l1)).bind fun y l2 => .ok (bx (sg l1) [x, y]) l2 else badAt l1) else .ok x (gap l1)
  | f + 1, .choice, l => (parseR f (.lev 0) l).bind fun x l1 =>
    if sg l1 = [63] then (parseR f .expr (aft (sg l1) l1)).bind fun a l2 =>
      if sg l2 = [58] then (parseR f .choice (aft (sg l2) l2)).bind fun b l3 => .ok (bx [63] [x, a, b]) l3 else badAt l2
    else .ok x (gap l1)
  | f + 1, .lev n, l => if n = 10 then parseR f .pre l else (parseR f (.lev (n + 1)) l).bind fun x l1 => parseR f (.levL n x) l1
  | f + 1, .levL n x, l => if sg l ∈ levels n then (parseR f (.lev (n + 1)) (aft (sg l) l)).bind fun y l1 => parseR f (.levL n (bx (sg l) [x, y])) l1 else .ok x (gap l)
  | f + 1, .pre, l =>
    if sg l = [43, 43] ∨ sg l = [45, 45] then (parseR f .prim (gap (aft (sg l) l))).bind fun x l1 => if target x = true then .ok (bx (sg l ++ [118]) [x]) l1 else .bad (gap (aft (sg l) l))
    else if sg l = [45] ∨ sg l = [43] then (parseR f .pre (aft (sg l) l)).bind fun x l1 => .ok (bx (117 :: sg l) [x]) l1
    else if sg l = [33] ∨ sg l = [126] then (parseR f .pre (aft (sg l) l)).bind fun x l1 => .ok (bx (sg l) [x]) l1
    else parseR f .suf (gap l)
  | f + 1, .suf, l => (parseR f .prim l).bind fun x l1 =>
    if (sg l1 = [43, 43] ∨ sg l1 = [45, 45]) ∧ target x = true then .ok (bx (118 :: sg l1) [x]) (aft (sg l1) l1) else .ok x (gap l1)
  | f + 1, .prim, l => match gap l with
      | [] => .more
      | c :: r =>
        if isD c = true then numeral (c :: r)
        else if isL c = true then (if (run isW (c :: r)).1.length ≤ 64 then
            (if sg (run isW (c :: r)).2 = [91] then (parseR f .expr (aft (sg (run isW (c :: r)).2) (run isW (c :: r)).2)).bind fun x l1 => if sg l1 = [93] then .ok (.mk [101] 0 (run isW (c :: r)).1 [x]) (aft (sg l1) l1) else badAt l1
            else .ok (vx (run isW (c :: r)).1) (gap (run isW (c :: r)).2))
          else .bad (c :: r))
        else if c = 36 then dollar (c :: r)
        else if sg (c :: r) = [40] then (parseR f .expr (aft (sg (c :: r)) (c :: r))).bind fun x l1 => if sg l1 = [41] then .ok x (aft (sg l1) l1) else badAt l1
        else .bad (c :: r)

/-- a place at which ++ or -- stands -/
def stk (l : List UInt8) : Prop := gap l = l ∧ (sg l = [43, 43] ∨ sg l = [45, 45])
theorem stk.not {l s : List UInt8} (h : stk l) (h1 : s ≠ [43, 43]) (h2 : s ≠ [45, 45]) : sg l ≠ s := by
  rcases h.2 with e | e <;> rw [e]
  · exact fun h => h1 h.symm
  · exact fun h => h2 h.symm
theorem stk.some {l : List UInt8} (h : stk l) : gap l ≠ [] := by
  intro e
  have h1 : sg l ≠ [] := by rcases h.2 with e | e <;> rw [e] <;> decide
  have h2 := aft_len h1
  have h3 := h.1
  rw [e] at h3
  rw [← h3] at h2
  exact absurd h2 (by simp)
theorem stk.bad {l : List UInt8} (h : stk l) : badAt l = .bad l := by
  unfold badAt
  rw [if_neg h.some, h.1]
theorem stk.mem {l : List UInt8} {L : List (List UInt8)} (h : stk l) (h1 : [43, 43] ∉ L) (h2 : [45, 45] ∉ L) : sg l ∉ L := by
  rcases h.2 with e | e <;> rw [e] <;> assumption
theorem lev_no (n : Nat) : [43, 43] ∉ levels n ∧ [45, 45] ∉ levels n := by
  unfold levels
  by_cases h : n < 10
  · have : n = 0 ∨ n = 1 ∨ n = 2 ∨ n = 3 ∨ n = 4 ∨ n = 5 ∨ n = 6 ∨ n = 7 ∨ n = 8 ∨ n = 9 := by omega
    rcases this with rfl | rfl | rfl | rfl | rfl | rfl | rfl | rfl | rfl | rfl <;> decide
  · rw [Array.getElem?_eq_none (by simp; omega)]
    simp
/-- how the two readings hang together -/
def Rel (o oR : Out) : Prop := match o with
  | .ok x l1 => oR = .ok x l1
  | .stuck l1 => (∃ x, oR = .ok x l1) ∧ stk l1
  | .bad l1 => oR = .bad l1
  | .more => oR = .more
  | .none => oR = .none
theorem Rel.same (o : Out) (h : ∀ l, o ≠ .stuck l) : Rel o o := by
  cases o with
  | stuck l => exact absurd rfl (h l)
  | _ => exact rfl
theorem Rel.bind {o oR : Out} {F FR : Ex → List UInt8 → Out} (h : Rel o oR) (hF : ∀ x l, o = .ok x l → Rel (F x l) (FR x l)) (hs : ∀ x l, stk l → o = .stuck l → FR x l = .ok x l ∨ ∃ x', FR x l = .ok x' l) : Rel (o.bind F) (oR.bind FR) := by
  cases o with
  | ok x l => have h' : oR = .ok x l := h; rw [h']; exact hF x l rfl
  | stuck l =>
    obtain ⟨⟨x, hx⟩, hk⟩ := h
    rw [hx]
    refine ⟨?_, hk⟩
    rcases hs x l hk rfl with e | ⟨x', e⟩
    · exact ⟨x, e⟩
    · exact ⟨x', e⟩
  | bad l => have h' : oR = .bad l := h; rw [h']; exact rfl
  | more => have h' : oR = .more := h; rw [h']; exact rfl
  | none => have h' : oR = .none := h; rw [h']; exact rfl
theorem Rel.hard {o oR : Out} {F FR : Ex → List UInt8 → Out} (h : Rel o oR) (hF : ∀ x l, Rel (F x l) (FR x l)) (hs : ∀ x l, stk l → FR x l = .bad l) : Rel (o.hard.bind F) (oR.bind FR) := by
  cases o with
  | ok x l => have h' : oR = .ok x l := h; rw [h']; exact hF x l
  | stuck l =>
    obtain ⟨⟨x, hx⟩, hk⟩ := h
    rw [hx]
    exact hs x l hk
  | bad l => have h' : oR = .bad l := h; rw [h']; exact rfl
  | more => have h' : oR = .more := h; rw [h']; exact rfl
  | none => have h' : oR = .none := h; rw [h']; exact rfl
theorem bind_not_stuck {o : Out} {F : Ex → List UInt8 → Out} {g : List UInt8} (h : ∀ l, o ≠ .stuck l) (hF : ∀ x l, F x l ≠ .stuck g) : o.bind F ≠ .stuck g := by
  cases o with
  | ok x l => exact hF x l
  | stuck l => exact absurd rfl (h l)
  | bad l => intro e; cases e
  | more => intro e; cases e
  | none => intro e; cases e
theorem hard_not_stuck (o : Out) (l : List UInt8) : o.hard ≠ .stuck l := by cases o <;> intro e <;> cases e
theorem badAt_not_stuck (l g : List UInt8) : badAt l ≠ .stuck g := by unfold badAt; split <;> intro e <;> cases e
theorem numeral_not_stuck (l g : List UInt8) : numeral l ≠ .stuck g := by unfold numeral; split <;> intro e <;> cases e
theorem brace_not_stuck (b : Bool) (l g n h : List UInt8) : brace b l g n ≠ .stuck h := by
  unfold brace
  split
  · split
    · intro e; cases e
    · split <;> intro e <;> cases e
  · intro e; cases e
theorem dollarB_not_stuck (b : Bool) (l g h : List UInt8) : dollarB b l g ≠ .stuck h := by
  unfold dollarB
  split
  · intro e; cases e
  · split
    · split
      · exact brace_not_stuck _ _ _ _ _
      · intro e; cases e
    · split
      · split
        · exact brace_not_stuck _ _ _ _ _
        · intro e; cases e
      · split
        · exact brace_not_stuck _ _ _ _ _
        · intro e; cases e
theorem dollar_not_stuck (l g : List UInt8) : dollar l ≠ .stuck g := by
  unfold dollar
  split <;> exact dollarB_not_stuck _ _ _ _
theorem prim_not_stuck (f : Nat) (l g : List UInt8) : parse f .prim l ≠ .stuck g := by
  cases f with
  | zero => intro e; cases e
  | succ f =>
    unfold parse
    split
    · refine bind_not_stuck (hard_not_stuck _) fun x l1 => ?_
      split
      · intro e; cases e
      · exact badAt_not_stuck _ _
    · split
      · intro e; cases e
      · split
        · exact numeral_not_stuck _ _
        · split
          · split
            · split
              · refine bind_not_stuck (hard_not_stuck _) fun x l1 => ?_
                split
                · intro e; cases e
                · exact badAt_not_stuck _ _
              · intro e; cases e
            · intro e; cases e
          · split
            · exact dollar_not_stuck _ _
            · intro e; cases e
theorem bracket_head {l : List UInt8} (h : sg l = [40]) : ∃ r, gap l = 40 :: r := by
  have h1 := (sg_some (l := l) (by rw [h]; decide)).2
  rw [h] at h1
  unfold takeS at h1
  rw [skipJ_gap] at h1
  split at h1
  · rename_i d r hd
    split at h1
    · rename_i e
      exact ⟨r, by rw [hd, e]⟩
    · cases h1
  · cases h1

set_option maxHeartbeats 1600000 in
theorem parse_rel : ∀ (f : Nat) (K : Kd) (l : List UInt8), Rel (parse f K l) (parseR f K l) := by
  intro f
  induction f with
  | zero => intro K l; exact rfl
  | succ f ih =>
    intro K l
    have hf : ∀ {K l g}, parse f K l = .stuck g → ∃ f', f = f' + 1 := by
      intro K l g h
      cases f with
      | zero => cases h
      | succ f' => exact ⟨f', rfl⟩
    cases K with
    | expr =>
      unfold parse parseR
      refine (ih .assign l).bind (fun x l1 _ => ih _ _) fun x l1 hk hn => .inl ?_
      obtain ⟨f', rfl⟩ := hf hn
      unfold parseR
      rw [if_neg (hk.not (by decide) (by decide)), hk.1]
    | exprL x =>
      unfold parse parseR
      split
      · refine (ih .assign _).bind (fun y l1 _ => ih _ _) fun y l1 hk hn => .inr ⟨bx (sg l) [x, y], ?_⟩
        obtain ⟨f', rfl⟩ := hf hn
        unfold parseR
        rw [if_neg (hk.not (by decide) (by decide)), hk.1]
      · exact rfl
    | assign =>
      unfold parse parseR
      have h0 := ih .choice (gap l)
      rw [parse_gap f .choice l trivial] at h0
      refine h0.bind (fun x l1 _ => ?_) fun x l1 hk hn => .inl ?_
      · split
        · split
          · exact (ih .assign _).bind (fun y l2 _ => rfl) fun y l2 _ _ => .inr ⟨_, rfl⟩
          · exact Rel.same _ (badAt_not_stuck _)
        · exact rfl
      · rw [if_neg (hk.mem (by decide) (by decide)), hk.1]
    | choice =>
      unfold parse parseR
      refine (ih (.lev 0) l).bind (fun x l1 _ => ?_) fun x l1 hk hn => .inl ?_
      · split
        · refine (ih .expr _).hard (fun a l2 => ?_) fun a l2 hk => ?_
          · split
            · exact (ih .choice _).bind (fun y l2 _ => rfl) fun y l2 _ _ => .inr ⟨_, rfl⟩
            · exact Rel.same _ (badAt_not_stuck _)
          · rw [if_neg (hk.not (by decide) (by decide)), hk.bad]
        · exact rfl
      · rw [if_neg (hk.not (by decide) (by decide)), hk.1]
    | lev n =>
      unfold parse parseR
      split
      · exact ih _ _
      · refine (ih (.lev (n + 1)) l).bind (fun x l1 _ => ih _ _) fun x l1 hk hn => .inl ?_
        obtain ⟨f', rfl⟩ := hf hn
        unfold parseR
        rw [if_neg (hk.mem (lev_no n).1 (lev_no n).2), hk.1]
    | levL n x =>
      unfold parse parseR
      split
      · refine (ih (.lev (n + 1)) _).bind (fun y l1 _ => ih _ _) fun y l1 hk hn => .inr ⟨bx (sg l) [x, y], ?_⟩
        obtain ⟨f', rfl⟩ := hf hn
        unfold parseR
        rw [if_neg (hk.mem (lev_no n).1 (lev_no n).2), hk.1]
      · exact rfl
    | pre =>
      unfold parse parseR
      split
      · refine (ih .prim _).bind (fun x l1 _ => ?_) fun x l1 hk hn => ?_
        · split
          · exact rfl
          · exact rfl
        · exact absurd hn (prim_not_stuck _ _ _)
      · split
        · exact (ih .pre _).bind (fun x l1 _ => rfl) fun x l1 _ _ => .inr ⟨_, rfl⟩
        · split
          · exact (ih .pre _).bind (fun x l1 _ => rfl) fun x l1 _ _ => .inr ⟨_, rfl⟩
          · exact ih _ _
    | suf =>
      unfold parse parseR
      refine (ih .prim l).bind (fun x l1 _ => ?_) fun x l1 _ hn => absurd hn (prim_not_stuck _ _ _)
      by_cases h1 : sg l1 = [43, 43] ∨ sg l1 = [45, 45]
      · by_cases h2 : target x = true
        · rw [if_pos h1, if_pos h2, if_pos ⟨h1, h2⟩]
          exact rfl
        · rw [if_pos h1, if_neg h2, if_neg (fun h => h2 h.2)]
          exact ⟨⟨x, rfl⟩, gap_gap l1, by rw [sg_gap]; exact h1⟩
      · rw [if_neg h1, if_neg (fun h => h1 h.1)]
        exact rfl
    | prim =>
      unfold parse parseR
      by_cases h40 : sg l = [40]
      · obtain ⟨r, hr⟩ := bracket_head h40
        have e1 : sg (40 :: r) = [40] := by rw [← hr, sg_gap]; exact h40
        have e2 : aft [40] (40 :: r) = aft [40] l := by rw [← hr, aft_gap]
        rw [if_pos h40, hr, h40]
        show Rel _ (if isD 40 = true then _ else _)
        rw [if_neg (by decide), if_neg (by decide), if_neg (by decide), if_pos e1, e1, e2]
        refine (ih .expr _).hard (fun x l1 => ?_) fun x l1 hk => ?_
        · split
          · exact rfl
          · exact Rel.same _ (badAt_not_stuck _)
        · rw [if_neg (hk.not (by decide) (by decide)), hk.bad]
      · rw [if_neg h40]
        have e1 : sg (gap l) ≠ [40] := by rw [sg_gap]; exact h40
        generalize gap l = g at e1
        cases g with
        | nil => exact rfl
        | cons c r =>
          show Rel (if isD c = true then _ else _) (if isD c = true then _ else _)
          split
          · exact Rel.same _ (numeral_not_stuck _)
          · split
            · split
              · split
                · refine (ih .expr _).hard (fun x l1 => ?_) fun x l1 hk => ?_
                  · split
                    · exact rfl
                    · exact Rel.same _ (badAt_not_stuck _)
                  · rw [if_neg (hk.not (by decide) (by decide)), hk.bad]
                · exact rfl
              · exact rfl
            · split
              · exact Rel.same _ (dollar_not_stuck _)
              · exact rfl
/-- what the reference reads of the whole text -/
theorem parseR_some (f : Nat) (K : Kd) (l : List UInt8) (h : parse f K l ≠ .none) : parseR f K l ≠ .none := by
  have hr := parse_rel f K l
  intro e
  cases ho : parse f K l with
  | none => exact h ho
  | ok x l1 => rw [ho] at hr; have h' : parseR f K l = .ok x l1 := hr; rw [e] at h'; cases h'
  | bad l1 => rw [ho] at hr; have h' : parseR f K l = .bad l1 := hr; rw [e] at h'; cases h'
  | more => rw [ho] at hr; have h' : parseR f K l = .more := hr; rw [e] at h'; cases h'
  | stuck l1 => rw [ho] at hr; obtain ⟨⟨x, h'⟩, _⟩ := hr; rw [e] at h'; cases h'
/-- what the reference reads is no longer -/
theorem parseR_less {f : Nat} {K : Kd} {l : List UInt8} {x : Ex} {l1 : List UInt8} (h : parseR f K l = .ok x l1) : l1.length ≤ l.length := by
  have hr := parse_rel f K l
  have hl := parse_less f K l
  cases ho : parse f K l with
  | none => rw [ho] at hr; have h' : parseR f K l = .none := hr; rw [h] at h'; cases h'
  | ok x' l' => rw [ho] at hr hl; have h' : parseR f K l = .ok x' l' := hr; rw [h] at h'; cases h'; exact hl.2.1
  | bad l' => rw [ho] at hr; have h' : parseR f K l = .bad l' := hr; rw [h] at h'; cases h'
  | more => rw [ho] at hr; have h' : parseR f K l = .more := hr; rw [h] at h'; cases h'
  | stuck l' => rw [ho] at hr hl; obtain ⟨⟨x', h'⟩, _⟩ := hr; rw [h] at h'; cases h'; exact hl.2.2
/-- what follows the whole expression -/
def endR (x : Ex) (l1 : List UInt8) : Out := if gap l1 = [] then .ok x [] else .bad (gap l1)
theorem all_rel (f : Nat) (T : List UInt8) (h : parse f .expr T ≠ .none) : (parseR f .expr T).bind endR = ((parse f .expr T).bind endR).hard := by
  have hr := parse_rel f .expr T
  cases ho : parse f .expr T with
  | none => exact absurd ho h
  | ok x l =>
    rw [ho] at hr
    have h' : parseR f .expr T = .ok x l := hr
    rw [h']
    show endR x l = (endR x l).hard
    unfold endR
    split <;> rfl
  | bad l => rw [ho] at hr; have h' : parseR f .expr T = .bad l := hr; rw [h']; rfl
  | more => rw [ho] at hr; have h' : parseR f .expr T = .more := hr; rw [h']; rfl
  | stuck l =>
    rw [ho] at hr
    obtain ⟨⟨x, h'⟩, hk⟩ := hr
    rw [h']
    show endR x l = .bad l
    unfold endR
    rw [if_neg hk.some, hk.1]

end Go.Proofs.YtonejkomggpbbabGreatDoor
