/- Arithmetic expressions, plain: how they are printed; what has the form of an expression is read back from what is printed. -/
import Derived.Test.YtiigclkebnmopaaGreatDoorArPlain
import Derived.Lib.ItoaNum
namespace Go.Proofs.YtiigclkebnmopaaGreatDoor

/-- an expression that stands without brackets -/
def leafO (op : List UInt8) : Bool := op == [110] || op == [118] || op == [101]
def inn (op t : List UInt8) : List UInt8 := if leafO op = true then t else 40 :: (t ++ [41])
def varS (nm : List UInt8) : List UInt8 := if isNm nm = true then nm else if 1 < nm.length then 36 :: 123 :: (nm ++ [125]) else 36 :: nm
def aheadO (op : List UInt8) : List UInt8 :=
  if op = [117, 45] then [45] else if op = [117, 43] then [43] else if op = [33] then [33] else if op = [126] then [126] else if op = [43, 43, 118] then [43, 43] else if op = [45, 45, 118] then [45, 45] else []
def behindO (op : List UInt8) : List UInt8 := if op = [118, 43, 43] then [43, 43] else if op = [118, 45, 45] then [45, 45] else []
def shB (op : List UInt8) (n : Int) (nm : List UInt8) (l : List (List UInt8 × List UInt8)) : List UInt8 :=
  if op = [110] then Lib.itoa n
  else if op = [118] then varS nm
  else if op = [101] then nm ++ 91 :: ((l.map Prod.fst).headD [] ++ [93])
  else match l with
    | [a] => aheadO op ++ (a.2 ++ behindO op)
    | [a, b] => a.2 ++ 32 :: (op ++ 32 :: b.2)
    | [a, b, c] => a.2 ++ 32 :: 63 :: 32 :: (b.2 ++ 32 :: 58 :: 32 :: c.2)
    | _ => []
mutual
/-- how an expression is printed -/
def shw : Ex → List UInt8
  | .mk op n nm args => shB op n nm (shs args)
def shs : List Ex → List (List UInt8 × List UInt8)
  | [] => []
  | x :: r => (shw x, inn x.op (shw x)) :: shs r
end
def shi (x : Ex) : List UInt8 := inn x.op (shw x)

def setU : List (List UInt8) := [[43, 43, 118], [45, 45, 118], [118, 43, 43], [118, 45, 45]]
def unO : List (List UInt8) := [[117, 45], [117, 43], [33], [126]] ++ setU
def binO : List (List UInt8) := [[42], [47], [37], [43], [45], [60, 60], [62, 62], [60], [60, 61], [62], [62, 61], [61, 61], [33, 61], [38], [94], [124], [38, 38], [124, 124]]
def arO (op : List UInt8) : Nat := if op ∈ unO then 1 else if op = [63] then 3 else if op ∈ binO ∨ op = [44] ∨ op ∈ assigns then 2 else 0
def setsO (op : List UInt8) : Bool := decide (op ∈ assigns ∨ op ∈ setU)
def tgt (l : List Ex) : Bool := match l with
  | x :: _ => target x
  | [] => false
def varOk (nm : List UInt8) : Bool := isNm nm || nm == [35] || nm == [63] || posOk nm && nm.all isD
mutual
/-- the form of its sign -/
def shaped : Ex → Bool
  | .mk op n nm args =>
    if op = [110] then decide (0 ≤ n ∧ n ≤ (maxN : Int)) && nm == [] && args.length == 0
    else if op = [118] then n == 0 && args.length == 0 && varOk nm
    else if op = [101] then n == 0 && args.length == 1 && isNm nm && shapeds args
    else arO op != 0 && args.length == arO op && n == 0 && nm == [] && shapeds args && (!setsO op || tgt args)
def shapeds : List Ex → Bool
  | [] => true
  | x :: r => shaped x && shapeds r
end

/-- how tightly a sign binds what stands ahead of it -/
def prec (s : List UInt8) : Nat :=
  if s = [44] then 1 else if s ∈ assigns then 2 else if s = [63] then 3
  else if s ∈ levels 0 then 4 else if s ∈ levels 1 then 5 else if s ∈ levels 2 then 6 else if s ∈ levels 3 then 7 else if s ∈ levels 4 then 8 else if s ∈ levels 5 then 9
  else if s ∈ levels 6 then 10 else if s ∈ levels 7 then 11 else if s ∈ levels 8 then 12 else if s ∈ levels 9 then 13
  else if s = [43, 43] ∨ s = [45, 45] then 14 else 0
theorem levels_big (n : Nat) (h : 10 ≤ n) : levels n = [] := by
  unfold levels
  rw [Array.getElem?_eq_none (by simpa using h)]
  rfl
theorem prec_lev : ∀ n, n < 10 → ∀ s ∈ levels n, prec s = 4 + n := by decide
theorem prec_not_lev {s : List UInt8} {m n : Nat} (h : prec s < 4 + m) (hn : m ≤ n) : s ∉ levels n := fun hs => by
  rcases Nat.lt_or_ge n 10 with h1 | h1
  · have := prec_lev n h1 s hs
    omega
  · rw [levels_big n h1] at hs
    cases hs
theorem prec_not_assign {s : List UInt8} (h : prec s < 2) : s ∉ assigns := fun hs => by
  have : ∀ s ∈ assigns, prec s = 2 := by decide
  have := this s hs
  omega
theorem prec_not_q {s : List UInt8} (h : prec s < 3) : s ≠ [63] := fun e => by
  rw [e] at h
  exact absurd h (by decide)
theorem prec_not_comma {s : List UInt8} (h : prec s < 1) : s ≠ [44] := fun e => by
  rw [e] at h
  exact absurd h (by decide)
theorem prec_not_twice {s : List UInt8} (h : prec s < 14) : ¬ (s = [43, 43] ∨ s = [45, 45]) := fun e => by
  rcases e with e | e <;> (rw [e] at h; exact absurd h (by decide))

/-- read, or not read to the end for lack of steps -/
def Good (o : Out) (x : Ex) (R : List UInt8) : Prop := o = .none ∨ ∃ R', o = .ok x R' ∧ gap R' = gap R
theorem Good.bind {o : Out} {F : Ex → List UInt8 → Out} {x y : Ex} {R Q : List UInt8} (h : Good o x R) (hF : ∀ R', gap R' = gap R → Good (F x R') y Q) : Good (o.bind F) y Q := by
  rcases h with rfl | ⟨R', rfl, h⟩
  · exact .inl rfl
  · exact hF R' h
theorem Good.hard {o : Out} {x : Ex} {R : List UInt8} (h : Good o x R) : Good o.hard x R := by
  rcases h with rfl | ⟨R', rfl, h⟩
  · exact .inl rfl
  · exact .inr ⟨R', rfl, h⟩
theorem Good.ok {x : Ex} {R R' : List UInt8} (h : gap R' = gap R) : Good (.ok x R') x R := .inr ⟨R', rfl, h⟩
theorem Good.okg {x : Ex} {R R' : List UInt8} (h : gap R' = gap R) : Good (.ok x (gap R')) x R := .inr ⟨_, rfl, by rw [gap_gap, h]⟩
theorem sg_of {R R' : List UInt8} (h : gap R' = gap R) : sg R' = sg R := by rw [← sg_gap R', h, sg_gap]
theorem aft_of {R R' : List UInt8} (s : List UInt8) (h : gap R' = gap R) : aft s R' = aft s R := by rw [← aft_gap s R', h, aft_gap]

-- from one kind to the next
theorem up_lev {l R : List UInt8} {x : Ex} (n : Nat) (hn : n ≤ 10) (h : ∀ f, Good (parse f (.lev n) l) x R) : ∀ d m, m + d = n → prec (sg R) < 4 + m → ∀ f, Good (parse f (.lev m) l) x R
  | 0, m, hm, _, f => by
    obtain rfl : m = n := by omega
    exact h f
  | d + 1, m, hm, hp, f => by
    cases f with
    | zero => exact .inl rfl
    | succ f =>
      rw [show parse (f + 1) (.lev m) l = if m = 10 then parse f .pre l else (parse f (.lev (m + 1)) l).bind fun x l1 => parse f (.levL m x) l1 from rfl, if_neg (by omega)]
      refine (up_lev n hn h d (m + 1) (by omega) (by omega) f).bind fun R' hR => ?_
      cases f with
      | zero => exact .inl rfl
      | succ f =>
        rw [show parse (f + 1) (.levL m x) R' = if sg R' ∈ levels m then (parse f (.lev (m + 1)) (aft (sg R') R')).bind fun y l1 => parse f (.levL m (bx (sg R') [x, y])) l1 else .ok x (gap R') from rfl, if_neg (by rw [sg_of hR]; exact prec_not_lev hp (Nat.le_refl m))]
        exact .okg hR
theorem up_choice {l R : List UInt8} {x : Ex} (hp : prec (sg R) < 3) (h : ∀ f, Good (parse f (.lev 0) l) x R) (f : Nat) : Good (parse f .choice l) x R := by
  cases f with
  | zero => exact .inl rfl
  | succ f =>
    refine (h f).bind fun R' hR => ?_
    rw [sg_of hR, if_neg (prec_not_q hp)]
    exact .okg hR
theorem up_assign {l R : List UInt8} {x : Ex} (hp : prec (sg R) < 2) (h : ∀ f, Good (parse f .choice l) x R) (f : Nat) : Good (parse f .assign l) x R := by
  cases f with
  | zero => exact .inl rfl
  | succ f =>
    refine (h f).bind fun R' hR => ?_
    rw [sg_of hR, if_neg (prec_not_assign hp)]
    exact .okg hR
theorem up_exprL {R R' : List UInt8} {x : Ex} (hp : prec (sg R) < 1) (hR : gap R' = gap R) (f : Nat) : Good (parse f (.exprL x) R') x R := by
  cases f with
  | zero => exact .inl rfl
  | succ f =>
    rw [show parse (f + 1) (.exprL x) R' = if sg R' = [44] then (parse f .assign (aft (sg R') R')).bind fun y l1 => parse f (.exprL (bx (sg R') [x, y])) l1 else .ok x (gap R') from rfl, if_neg (by rw [sg_of hR]; exact prec_not_comma hp)]
    exact .okg hR
theorem up_expr {l R : List UInt8} {x : Ex} (hp : prec (sg R) < 1) (h : ∀ f, Good (parse f .assign l) x R) (f : Nat) : Good (parse f .expr l) x R := by
  cases f with
  | zero => exact .inl rfl
  | succ f => exact (h f).bind fun R' hR => up_exprL hp hR f
theorem up_pre {l R : List UInt8} {x : Ex} (h : ∀ f, Good (parse f .pre l) x R) (f : Nat) : Good (parse f (.lev 10) l) x R := by
  cases f with
  | zero => exact .inl rfl
  | succ f => exact h f
/-- all kinds -/
theorem up_lev0 {l R : List UInt8} {x : Ex} (n : Nat) (hn : n ≤ 10) (hp : prec (sg R) < 1) (h : ∀ f, Good (parse f (.lev n) l) x R) (f : Nat) : Good (parse f .expr l) x R :=
  up_expr hp (up_assign (by omega) (up_choice (by omega) (up_lev n hn h n 0 (by omega) (by omega)))) f

end Go.Proofs.YtiigclkebnmopaaGreatDoor

namespace Go.Proofs.YtiigclkebnmopaaGreatDoor

theorem gap_no {c : UInt8} (hb : blB c = false) (hc : c ≠ 92) : ∀ r, gap (c :: r) = c :: r
  | [] => by simp [gap, hb]
  | b :: r => by simp [gap, hb, hc]
theorem gap_sp {c : UInt8} (hb : blB c = false) (hc : c ≠ 92) (r : List UInt8) : gap (32 :: c :: r) = c :: r := by
  rw [show gap (32 :: c :: r) = gap (c :: r) from by simp [gap, blB]]
  exact gap_no hb hc r
theorem skipJ_no {c : UInt8} (hc : c ≠ 92) : ∀ r, skipJ (c :: r) = c :: r
  | [] => rfl
  | b :: r => by simp [skipJ, hc]
theorem takeS_app : ∀ (s T : List UInt8), (∀ c ∈ s, c ≠ 92) → takeS s (s ++ T) = some T
  | [], T, _ => rfl
  | c :: s, T, h => by
    rw [List.cons_append]
    unfold takeS
    rw [skipJ_no (h c (by simp))]
    simp only [if_true]
    exact takeS_app s T fun d hd => h d (by simp [hd])
theorem sg_strip (l : List UInt8) : sg l = (signs.find? (·.isPrefixOf (strip (gap l)))).getD [] := by
  unfold sg
  simp only [takeS_strip]
theorem strip_no {c : UInt8} (hc : c ≠ 92) : ∀ r, strip (c :: r) = c :: strip r
  | [] => rfl
  | b :: r => by simp [strip, hc]
/-- a sign between blanks -/
def between : List (List UInt8) := binO ++ assigns ++ [[44], [63], [58]]
theorem between_ne : ∀ op ∈ between, ∃ c r, op = c :: r ∧ blB c = false ∧ c ≠ 92 ∧ isW c = false ∧ (∀ d ∈ op, d ≠ 92) := by
  have h : ∀ op ∈ between, (match op with | [] => false | c :: _ => !blB c && c != 92 && !isW c && op.all (· != 92)) = true := by decide
  intro op ho
  have h1 := h op ho
  cases op with
  | nil => cases h1
  | cons c r =>
    simp at h1
    refine ⟨c, r, rfl, h1.1.1.1, h1.1.1.2, h1.1.2, ?_⟩
    intro d hd
    rcases List.mem_cons.1 hd with rfl | hd
    · exact h1.1.1.2
    · exact h1.2.2 d hd
theorem strip_app : ∀ (s T : List UInt8), (∀ c ∈ s, c ≠ 92) → strip (s ++ T) = s ++ strip T
  | [], T, _ => rfl
  | c :: s, T, h => by
    rw [List.cons_append, strip_no (h c (by simp)), strip_app s T fun d hd => h d (by simp [hd])]
    rfl
theorem find_between : ∀ op ∈ between, ∀ X, (signs.find? (·.isPrefixOf (op ++ 32 :: X))).getD [] = op := by
  intro op h X
  simp [between, binO, assigns] at h
  rcases h with h | h | h | h | h | h | h | h | h | h | h | h | h | h | h | h | h | h | h | h | h | h | h | h | h | h | h | h | h | h | h | h <;> (subst h; rfl)
theorem sg_between {op : List UInt8} (h : op ∈ between) (T : List UInt8) : sg (32 :: (op ++ 32 :: T)) = op ∧ aft op (32 :: (op ++ 32 :: T)) = 32 :: T ∧ gap (32 :: (op ++ 32 :: T)) = op ++ 32 :: T := by
  obtain ⟨c, r, he, h1, h2, _, h4⟩ := between_ne op h
  have hg : gap (32 :: (op ++ 32 :: T)) = op ++ 32 :: T := by
    subst he
    exact gap_sp h1 h2 _
  refine ⟨?_, ?_, hg⟩
  · rw [sg_strip, hg, strip_app _ _ h4, strip_no (by decide)]
    exact find_between op h _
  · unfold aft
    rw [hg, takeS_app _ _ h4]
    rfl
/-- one sign and what does not go on with it -/
theorem sg_one {c : UInt8} (T : List UInt8) (h : c = 40 ∨ c = 41 ∨ c = 91 ∨ c = 93) : sg (c :: T) = [c] ∧ aft [c] (c :: T) = T ∧ gap (c :: T) = c :: T := by
  have h92 : c ≠ 92 := by rcases h with rfl | rfl | rfl | rfl <;> decide
  have hb : blB c = false := by rcases h with rfl | rfl | rfl | rfl <;> rfl
  have hg := gap_no hb h92 T
  refine ⟨?_, ?_, hg⟩
  · rw [sg_strip, hg, strip_no h92]
    rcases h with rfl | rfl | rfl | rfl <;> rfl
  · unfold aft
    rw [hg]
    rw [show takeS [c] (c :: T) = some T from takeS_app [c] T (by simpa using h92)]
    rfl
theorem sg_twice {c : UInt8} (T : List UInt8) (h : c = 43 ∨ c = 45) : sg (c :: c :: T) = [c, c] ∧ aft [c, c] (c :: c :: T) = T ∧ gap (c :: c :: T) = c :: c :: T := by
  have h92 : c ≠ 92 := by rcases h with rfl | rfl <;> decide
  have hb : blB c = false := by rcases h with rfl | rfl <;> rfl
  have hg := gap_no hb h92 (c :: T)
  refine ⟨?_, ?_, hg⟩
  · rw [sg_strip, hg, strip_no h92, strip_no h92]
    rcases h with rfl | rfl <;> rfl
  · unfold aft
    rw [hg]
    rw [show takeS [c, c] (c :: c :: T) = some T from takeS_app [c, c] T (by simpa using h92)]
    rfl
/-- a byte with which an operand begins -/
def opd (c : UInt8) : Bool := isW c || c == 36 || c == 40
theorem opd_facts {c : UInt8} (h : opd c = true) : c ≠ 92 ∧ blB c = false ∧ c ≠ 61 ∧ c ≠ 43 ∧ c ≠ 45 ∧ c ≠ 33 ∧ c ≠ 126 := by
  have hn : ∀ d : UInt8, opd d = false → c ≠ d := fun d hd e => by rw [e, hd] at h; cases h
  refine ⟨hn _ rfl, ?_, hn _ rfl, hn _ rfl, hn _ rfl, hn _ rfl, hn _ rfl⟩
  have h1 := hn 32 rfl
  have h2 := hn 9 rfl
  have h3 := hn 10 rfl
  simp [blB, h1, h2, h3]
/-- a sign ahead of an operand -/
theorem sg_ahead {s c : UInt8} (T : List UInt8) (hs : s = 45 ∨ s = 43 ∨ s = 33 ∨ s = 126) (hc : opd c = true) : sg (s :: c :: T) = [s] ∧ aft [s] (s :: c :: T) = c :: T ∧ gap (s :: c :: T) = s :: c :: T := by
  obtain ⟨h92, _, h61, h43, h45, _, _⟩ := opd_facts hc
  have hs92 : s ≠ 92 := by rcases hs with rfl | rfl | rfl | rfl <;> decide
  have hb : blB s = false := by rcases hs with rfl | rfl | rfl | rfl <;> rfl
  have hg := gap_no hb hs92 (c :: T)
  have e61 : (61 == c) = false := by simpa using fun e => h61 e.symm
  have e43 : (43 == c) = false := by simpa using fun e => h43 e.symm
  have e45 : (45 == c) = false := by simpa using fun e => h45 e.symm
  refine ⟨?_, ?_, hg⟩
  · rw [sg_strip, hg, strip_no hs92, strip_no h92]
    rcases hs with rfl | rfl | rfl | rfl <;> simp [signs, List.isPrefixOf, e61, e43, e45]
  · unfold aft
    rw [hg]
    rw [show takeS [s] (s :: c :: T) = some (c :: T) from takeS_app [s] (c :: T) (by simpa using hs92)]
    rfl
theorem find_word {c : UInt8} (X : List UInt8) (h : isW c = true ∨ c = 36) : (signs.find? (·.isPrefixOf (c :: X))).getD [] = [] := by
  have hn : ∀ d : UInt8, isW d = false → d ≠ 36 → (d == c) = false := fun d hd h36 => by
    rw [beq_eq_false_iff_ne]
    rintro rfl
    rcases h with h | h
    · rw [hd] at h; cases h
    · exact h36 h
  have : signs.find? (·.isPrefixOf (c :: X)) = none := by
    rw [List.find?_eq_none]
    intro s hs
    have : ∀ s ∈ signs, (match s with | [] => false | d :: _ => !isW d && d != 36) = true := by decide
    have h1 := this s hs
    cases s with
    | nil => cases h1
    | cons d s =>
      simp at h1
      simp [List.isPrefixOf, hn d h1.1 h1.2]
  rw [this]
  rfl
/-- an operand's beginning is no sign, but for the bracket -/
theorem sg_word {c : UInt8} (T : List UInt8) (h : isW c = true ∨ c = 36) : sg (c :: T) = [] ∧ gap (c :: T) = c :: T := by
  have ho : opd c = true := by
    unfold opd
    rcases h with h | rfl
    · simp [h]
    · rfl
  obtain ⟨h92, hb, _⟩ := opd_facts ho
  have hg := gap_no hb h92 T
  refine ⟨?_, hg⟩
  rw [sg_strip, hg, strip_no h92]
  exact find_word _ h
theorem sg_opd {c : UInt8} (T : List UInt8) (h : opd c = true) : (sg (c :: T) = [] ∨ sg (c :: T) = [40]) ∧ gap (c :: T) = c :: T := by
  unfold opd at h
  by_cases h40 : c = 40
  · have := sg_one (c := c) T (.inl h40)
    exact ⟨.inr (by rw [this.1, h40]), this.2.2⟩
  · have := sg_word (c := c) T (by simpa [h40] using h)
    exact ⟨.inl this.1, this.2⟩

/-- what may stand behind an operand -/
def okR (R : List UInt8) : Prop := (R = [] ∨ ∃ c r, R = c :: r ∧ isW c = false ∧ c ≠ 92) ∧ sg R ≠ [91]
theorem okR.nil : okR [] := ⟨.inl rfl, by decide⟩
theorem okR.close {c : UInt8} (T : List UInt8) (h : c = 41 ∨ c = 93) : okR (c :: T) := by
  refine ⟨.inr ⟨c, T, rfl, ?_, ?_⟩, ?_⟩
  · rcases h with rfl | rfl <;> rfl
  · rcases h with rfl | rfl <;> decide
  · rw [(sg_one (c := c) T (by rcases h with h | h <;> simp [h])).1]
    rcases h with rfl | rfl <;> decide
theorem okR.between {op : List UInt8} (h : op ∈ between) (T : List UInt8) : okR (32 :: (op ++ 32 :: T)) := by
  refine ⟨.inr ⟨32, _, rfl, rfl, by decide⟩, ?_⟩
  rw [(sg_between h T).1]
  rintro rfl
  exact absurd h (by decide)
theorem okR.twice {c : UInt8} (T : List UInt8) (h : c = 43 ∨ c = 45) : okR (c :: c :: T) := by
  refine ⟨.inr ⟨c, _, rfl, ?_, ?_⟩, ?_⟩
  · rcases h with rfl | rfl <;> rfl
  · rcases h with rfl | rfl <;> decide
  · rw [(sg_twice T h).1]
    rcases h with rfl | rfl <;> decide

theorem run_app (q : UInt8 → Bool) : ∀ (D R : List UInt8), (∀ c ∈ D, q c = true) → q 92 = false → (R = [] ∨ ∃ c r, R = c :: r ∧ q c = false ∧ c ≠ 92) → run q (D ++ R) = (D, R)
  | [], R, _, _, hR => by
    rcases hR with rfl | ⟨c, r, rfl, h1, h2⟩
    · rfl
    · cases r with
      | nil => simp [run, h1]
      | cons b r => simp [run, h1, h2]
  | c :: D, R, hD, h92, hR => by
    have hc := hD c (by simp)
    have hc92 : c ≠ 92 := fun e => by rw [e, h92] at hc; cases hc
    have ih := run_app q D R (fun d hd => hD d (by simp [hd])) h92 hR
    rw [List.cons_append]
    cases hx : D ++ R with
    | nil =>
      rw [hx] at ih
      have h1 := List.append_eq_nil_iff.1 hx
      rw [h1.1, h1.2]
      simp [run, hc]
    | cons b r =>
      rw [hx] at ih
      simp [run, hc, hc92, ih]
theorem dec_digit : ∀ (k n : Nat), n < k → ∀ c ∈ Lib.decDigits n, isD c = true
  | 0, n, h => by omega
  | k + 1, n, h => by
    intro c hc
    have hd : ∀ d : Nat, d < 10 → isD (UInt8.ofNat (48 + d)) = true := by decide
    by_cases h10 : n < 10
    · rw [Lib.decDigits_one h10] at hc
      rw [List.mem_singleton.1 hc]
      exact hd n h10
    · rw [Lib.decDigits, dif_neg h10] at hc
      rcases List.mem_append.1 hc with hc | hc
      · exact dec_digit k (n / 10) (by omega) c hc
      · rw [List.mem_singleton.1 hc]
        exact hd (n % 10) (by omega)
/-- the number that digits are, behind one that is read already -/
theorem numV_dec : ∀ (k n : Nat), n < k → n ≤ maxN → ∀ r, numV 10 (Lib.decDigits n ++ r) 0 = numV 10 r n
  | 0, n, h, _, _ => by omega
  | k + 1, n, h, hm, r => by
    have hd : ∀ d : Nat, d < 10 → dv (UInt8.ofNat (48 + d)) = d := by decide
    by_cases h10 : n < 10
    · rw [Lib.decDigits_one h10]
      show (if dv (UInt8.ofNat (48 + n)) < 10 ∧ 10 * 0 + dv (UInt8.ofNat (48 + n)) ≤ maxN then numV 10 r (10 * 0 + dv (UInt8.ofNat (48 + n))) else none) = _
      rw [hd n h10, if_pos ⟨h10, by omega⟩]
      congr 1
      omega
    · rw [Lib.decDigits, dif_neg h10, List.append_assoc, numV_dec k (n / 10) (by omega) (by omega)]
      show (if dv (UInt8.ofNat (48 + n % 10)) < 10 ∧ 10 * (n / 10) + dv (UInt8.ofNat (48 + n % 10)) ≤ maxN then numV 10 r (10 * (n / 10) + dv (UInt8.ofNat (48 + n % 10))) else none) = _
      rw [hd (n % 10) (by omega), if_pos ⟨by omega, by omega⟩]
      congr 1
      omega
theorem dec_ne (n : Nat) : ∃ c r, Lib.decDigits n = c :: r := by
  by_cases h10 : n < 10
  · exact ⟨_, _, Lib.decDigits_one h10⟩
  · rw [Lib.decDigits, dif_neg h10]
    cases h : Lib.decDigits (n / 10) with
    | nil => exact ⟨_, _, rfl⟩
    | cons c r => exact ⟨c, _, rfl⟩
theorem dec_first : ∀ (k n : Nat), n < k → 1 ≤ n → (Lib.decDigits n).take 1 ≠ [48]
  | 0, n, h, _ => by omega
  | k + 1, n, h, h1 => by
    have hd : ∀ d : Nat, d < 10 → 1 ≤ d → UInt8.ofNat (48 + d) ≠ 48 := by decide
    by_cases h10 : n < 10
    · rw [Lib.decDigits_one h10]
      simpa using hd n h10 h1
    · rw [Lib.decDigits, dif_neg h10]
      obtain ⟨c, r, hc⟩ := dec_ne (n / 10)
      have := dec_first k (n / 10) (by omega) (by omega)
      rw [hc] at this ⊢
      simpa using this
theorem numOf_dec (n : Nat) (h : n ≤ maxN) : numOf (Lib.decDigits n) = some n := by
  obtain ⟨c, r, hc⟩ := dec_ne n
  have hdig := dec_digit (n + 1) n (by omega)
  have h16 : (Lib.decDigits n).take 2 ≠ [48, 120] := fun e => by
    have h1 : (120 : UInt8) ∈ (Lib.decDigits n).take 2 := by rw [e]; simp
    have := hdig 120 (List.mem_of_mem_take h1)
    exact absurd this (by decide)
  have h8 : ¬ (1 < (Lib.decDigits n).length ∧ (Lib.decDigits n).take 1 = [48]) := by
    rintro ⟨h1, h2⟩
    by_cases h0 : 1 ≤ n
    · exact dec_first (n + 1) n (by omega) h0 h2
    · obtain rfl : n = 0 := by omega
      rw [Lib.decDigits_one (by omega)] at h1
      simp at h1
  unfold numOf digsOf baseOf
  rw [if_neg h16, if_neg h8, if_neg h16, if_neg h8, if_neg (by rw [hc]; simp)]
  have := numV_dec (n + 1) n (by omega) h []
  rw [List.append_nil] at this
  rw [this]
  rfl

end Go.Proofs.YtiigclkebnmopaaGreatDoor

namespace Go.Proofs.YtiigclkebnmopaaGreatDoor

/-- an operand is read -/
def Opd (x : Ex) : Prop := ∀ f R, okR R → Good (parse f .prim (shi x ++ R)) x R
/-- all of it is read -/
def Full (x : Ex) : Prop := ∀ f R, okR R → prec (sg R) = 0 → Good (parse f .expr (shw x ++ R)) x R

theorem nm_head {nm : List UInt8} (h : isNm nm = true) : ∃ c r, nm = c :: r ∧ isL c = true ∧ nm.length ≤ 64 ∧ ∀ d ∈ nm, isW d = true := by
  cases nm with
  | nil => cases h
  | cons c r =>
    unfold isNm at h
    simp at h
    refine ⟨c, r, rfl, h.1.2, by simpa using h.1.1, ?_⟩
    intro d hd
    rcases List.mem_cons.1 hd with rfl | hd
    · unfold isW; simp [h.1.2]
    · exact h.2 d hd
theorem isL_not_isD {c : UInt8} (h : isL c = true) : isD c = false := by
  unfold isL at h
  unfold isD
  simp at h ⊢
  omega
theorem isL_isW {c : UInt8} (h : isL c = true) : isW c = true := by unfold isW; simp [h]
theorem isD_isW {c : UInt8} (h : isD c = true) : isW c = true := by unfold isW; simp [h]

theorem prim_bracket (f : Nat) {l : List UInt8} (h : sg l = [40]) : parse (f + 1) .prim l = (parse f .expr (aft [40] l)).hard.bind fun x l1 => if sg l1 = [41] then .ok x (aft (sg l1) l1) else badAt l1 := by
  rw [parse, if_pos h, h]
theorem prim_num (f : Nat) {c : UInt8} {r l : List UInt8} (h : sg l = []) (hg : gap l = c :: r) (hc : isD c = true) : parse (f + 1) .prim l = numeral (c :: r) := by
  rw [parse, if_neg (by rw [h]; decide)]
  simp only [hg, hc, if_true]
theorem prim_name (f : Nat) {c : UInt8} {r l : List UInt8} (h : sg l = []) (hg : gap l = c :: r) (hc : isL c = true) (hl : (run isW (c :: r)).1.length ≤ 64) : parse (f + 1) .prim l =
    (if sg (run isW (c :: r)).2 = [91] then (parse f .expr (aft (sg (run isW (c :: r)).2) (run isW (c :: r)).2)).hard.bind fun x l1 => if sg l1 = [93] then .ok (.mk [101] 0 (run isW (c :: r)).1 [x]) (aft (sg l1) l1) else badAt l1
     else .ok (vx (run isW (c :: r)).1) (gap (run isW (c :: r)).2)) := by
  rw [parse, if_neg (by rw [h]; decide)]
  simp only [hg, hc, isL_not_isD hc, if_true, if_false, hl, Bool.false_eq_true]
theorem prim_dollar (f : Nat) {r l : List UInt8} (h : sg l = []) (hg : gap l = 36 :: r) : parse (f + 1) .prim l = dollar (36 :: r) := by
  rw [parse, if_neg (by rw [h]; decide)]
  simp only [hg, show isD 36 = false from rfl, show isL 36 = false from rfl, if_true, if_false, Bool.false_eq_true]

/-- a number -/
theorem opd_num (n : Int) (h0 : 0 ≤ n) (hm : n ≤ (maxN : Int)) : Opd (.mk [110] n [] []) := by
  intro f R hR
  cases f with
  | zero => exact .inl rfl
  | succ f =>
    have e : shi (.mk [110] n [] []) = Lib.decDigits n.toNat := by
      show Lib.itoa n = _
      unfold Lib.itoa
      rw [if_neg (by omega)]
    rw [e]
    obtain ⟨c, r, hc⟩ := dec_ne n.toNat
    have hd := dec_digit (n.toNat + 1) n.toNat (by omega)
    have hcd : isD c = true := hd c (by rw [hc]; simp)
    have hs := sg_word (c := c) (r ++ R) (.inl (isD_isW hcd))
    have hr := run_app isW (Lib.decDigits n.toNat) R (fun d h => isD_isW (hd d h)) rfl hR.1
    rw [hc, List.cons_append] at hr ⊢
    rw [prim_num f hs.1 hs.2 hcd]
    unfold numeral
    rw [hr, ← hc, numOf_dec _ (by omega)]
    refine .inr ⟨R, ?_, rfl⟩
    show Out.ok (.mk [110] (n.toNat : Int) [] []) R = _
    rw [Int.toNat_of_nonneg h0]
/-- a variable -/
theorem opd_var (nm : List UInt8) (h : varOk nm = true) : Opd (.mk [118] 0 nm []) := by
  intro f R hR
  cases f with
  | zero => exact .inl rfl
  | succ f =>
    show Good (parse (f + 1) .prim (varS nm ++ R)) (vx nm) R
    unfold varS
    by_cases hn : isNm nm = true
    · rw [if_pos hn]
      obtain ⟨c, r, rfl, hc, hl, hw⟩ := nm_head hn
      have hs := sg_word (c := c) (r ++ R) (.inl (isL_isW hc))
      have hr := run_app isW (c :: r) R hw rfl hR.1
      rw [List.cons_append] at hr ⊢
      rw [prim_name f hs.1 hs.2 hc (by rw [hr]; exact hl), hr]
      dsimp only
      rw [if_neg hR.2]
      exact .inr ⟨_, rfl, gap_gap R⟩
    · rw [if_neg hn]
      have hn' : isNm nm = false := by simpa using hn
      unfold varOk at h
      rw [hn'] at h
      simp only [Bool.false_or, Bool.or_eq_true, beq_iff_eq, Bool.and_eq_true, List.all_eq_true] at h
      by_cases h1 : 1 < nm.length
      · rw [if_pos h1]
        have h2 : posOk nm = true ∧ ∀ x ∈ nm, isD x = true := by
          rcases h with (rfl | rfl) | h
          · simp at h1
          · simp at h1
          · exact h
        obtain ⟨c, r, hcr⟩ : ∃ c r, nm = c :: r := by cases nm with | nil => simp at h1 | cons c r => exact ⟨c, r, rfl⟩
        have hcd : isD c = true := h2.2 c (by rw [hcr]; simp)
        have hcL : isL c = false := by
          cases hl : isL c
          · rfl
          · rw [isL_not_isD hl] at hcd; cases hcd
        have hc92 : c ≠ 92 := fun e => by rw [e] at hcd; exact absurd hcd (by decide)
        have hs := sg_word (c := 36) (123 :: (nm ++ [125]) ++ R) (.inr rfl)
        rw [List.cons_append]
        rw [prim_dollar f hs.1 hs.2]
        unfold dollar
        have ht : takeS [123] ((36 :: (123 :: (nm ++ [125]) ++ R)).drop 1) = some (nm ++ 125 :: R) := by
          have := takeS_app [123] (nm ++ 125 :: R) (by simp)
          simpa using this
        rw [ht]
        dsimp only
        unfold dollarB
        have hk : skipJ (nm ++ 125 :: R) = c :: (r ++ 125 :: R) := by
          rw [hcr, List.cons_append]
          exact skipJ_no hc92 _
        rw [hk]
        have hr := run_app isD nm (125 :: R) h2.2 rfl (.inr ⟨125, R, rfl, rfl, by decide⟩)
        simp only [hcL, hcd, hr, h2.1, if_true, if_false, Bool.false_eq_true, and_self]
        unfold brace
        rw [if_pos rfl, show takeS [125] (125 :: R) = some R from takeS_app [125] R (by simp)]
        exact .inr ⟨R, rfl, rfl⟩
      · rw [if_neg h1]
        obtain ⟨c, hcn, hc1⟩ : ∃ c, nm = [c] ∧ (isD c = true ∨ c = 35 ∨ c = 63) := by
          rcases h with (rfl | rfl) | ⟨h2, h3⟩
          · exact ⟨35, rfl, .inr (.inl rfl)⟩
          · exact ⟨63, rfl, .inr (.inr rfl)⟩
          · cases nm with
            | nil => exact absurd h2 (by decide)
            | cons c r =>
              cases r with
              | nil => exact ⟨c, rfl, .inl (h3 c (by simp))⟩
              | cons d r => simp at h1
        subst hcn
        have hcL : isL c = false := by
          cases hl : isL c
          · rfl
          · rcases hc1 with h | rfl | rfl
            · rw [isL_not_isD hl] at h; cases h
            · exact absurd hl (by decide)
            · exact absurd hl (by decide)
        have hc92 : c ≠ 92 := by
          rcases hc1 with h | rfl | rfl
          · rintro rfl; exact absurd h (by decide)
          · decide
          · decide
        have hc123 : c ≠ 123 := by
          rcases hc1 with h | rfl | rfl
          · rintro rfl; exact absurd h (by decide)
          · decide
          · decide
        have hs := sg_word (c := 36) ([c] ++ R) (.inr rfl)
        rw [List.cons_append]
        rw [prim_dollar f hs.1 hs.2]
        unfold dollar
        have ht : takeS [123] ((36 :: ([c] ++ R)).drop 1) = none := by
          show takeS [123] (c :: R) = none
          unfold takeS
          rw [skipJ_no hc92]
          simp [hc123]
        rw [ht]
        show Good (dollarB false (36 :: ([c] ++ R)) (c :: R)) (vx [c]) R
        unfold dollarB
        rw [skipJ_no hc92]
        simp only [hcL, hc1, if_true, if_false, Bool.false_eq_true, false_and]
        exact .inr ⟨R, rfl, rfl⟩
/-- an element -/
theorem opd_elem (nm : List UInt8) (x : Ex) (h : isNm nm = true) (hx : Full x) : Opd (.mk [101] 0 nm [x]) := by
  intro f R hR
  cases f with
  | zero => exact .inl rfl
  | succ f =>
    have e : shi (.mk [101] 0 nm [x]) ++ R = nm ++ 91 :: (shw x ++ 93 :: R) := by
      show (nm ++ 91 :: (shw x ++ [93])) ++ R = _
      simp
    rw [e]
    obtain ⟨c, r, rfl, hc, hl, hw⟩ := nm_head h
    have hs := sg_word (c := c) (r ++ 91 :: (shw x ++ 93 :: R)) (.inl (isL_isW hc))
    have hr := run_app isW (c :: r) (91 :: (shw x ++ 93 :: R)) hw rfl (.inr ⟨91, _, rfl, rfl, by decide⟩)
    have h91 := sg_one (c := 91) (shw x ++ 93 :: R) (by simp)
    have h93 := sg_one (c := 93) R (by simp)
    rw [List.cons_append] at hr ⊢
    rw [prim_name f hs.1 hs.2 hc (by rw [hr]; exact hl), hr]
    dsimp only
    rw [if_pos h91.1, h91.1, h91.2.1]
    refine (hx f (93 :: R) (okR.close R (.inr rfl)) (by rw [h93.1]; rfl)).hard.bind fun R' hR' => ?_
    have h1 := sg_of hR'
    rw [h93.1] at h1
    rw [if_pos h1, h1, aft_of _ hR', h93.2.1]
    exact .inr ⟨R, rfl, rfl⟩
/-- in brackets -/
theorem opd_of_full (x : Ex) (h : leafO x.op = false) (hx : Full x) : Opd x := by
  intro f R hR
  cases f with
  | zero => exact .inl rfl
  | succ f =>
    have e : shi x ++ R = 40 :: (shw x ++ 41 :: R) := by
      unfold shi inn
      rw [if_neg (by rw [h]; decide)]
      simp
    rw [e]
    have h40 := sg_one (c := 40) (shw x ++ 41 :: R) (by simp)
    have h41 := sg_one (c := 41) R (by simp)
    rw [prim_bracket f h40.1, h40.2.1]
    refine (hx f (41 :: R) (okR.close R (.inl rfl)) (by rw [h41.1]; rfl)).hard.bind fun R' hR' => ?_
    have h1 := sg_of hR'
    rw [h41.1] at h1
    rw [if_pos h1, h1, aft_of _ hR', h41.2.1]
    exact .inr ⟨R, rfl, rfl⟩

/-- an operand's first byte -/
theorem shi_head {x : Ex} (h : shaped x = true) : ∃ c r, shi x = c :: r ∧ opd c = true := by
  obtain ⟨op, n, nm, args⟩ := x
  by_cases h0 : leafO op = true
  · have e : shi (.mk op n nm args) = shw (.mk op n nm args) := by
      unfold shi inn
      rw [if_pos (show leafO (Ex.mk op n nm args).op = true from h0)]
    rw [e]
    unfold shaped at h
    unfold shw shB
    unfold leafO at h0
    simp only [Bool.or_eq_true, beq_iff_eq] at h0
    rcases h0 with (rfl | rfl) | rfl
    · rw [if_pos rfl] at h ⊢
      simp at h
      obtain ⟨c, r, hc⟩ := dec_ne n.toNat
      have hd := dec_digit (n.toNat + 1) n.toNat (by omega) c (by rw [hc]; simp)
      refine ⟨c, r, ?_, by unfold opd; rw [isD_isW hd]; rfl⟩
      unfold Lib.itoa
      rw [if_neg (by omega), hc]
    · rw [if_neg (by decide), if_pos rfl]
      unfold varS
      by_cases hn : isNm nm = true
      · rw [if_pos hn]
        obtain ⟨c, r, rfl, hc, _⟩ := nm_head hn
        exact ⟨c, r, rfl, by unfold opd; rw [isL_isW hc]; rfl⟩
      · rw [if_neg hn]
        by_cases h1 : 1 < nm.length
        · rw [if_pos h1]
          exact ⟨36, _, rfl, rfl⟩
        · rw [if_neg h1]
          exact ⟨36, _, rfl, rfl⟩
    · rw [if_neg (by decide), if_neg (by decide), if_pos rfl] at h ⊢
      simp at h
      obtain ⟨c, r, rfl, hc, _⟩ := nm_head h.1.2
      exact ⟨c, _, rfl, by unfold opd; rw [isL_isW hc]; rfl⟩
  · refine ⟨40, shw (.mk op n nm args) ++ [41], ?_, rfl⟩
    unfold shi inn
    rw [if_neg (show ¬ leafO (Ex.mk op n nm args).op = true from h0)]

theorem pre_plain (f : Nat) {l : List UInt8} (h : sg l = [] ∨ sg l = [40]) : parse (f + 1) .pre l = parse f .suf (gap l) := by
  rw [parse]
  rcases h with h | h <;> simp [h]
section
variable {x : Ex} {R : List UInt8}
theorem opd_suf (h : Opd x) (hR : okR R) (hp : prec (sg R) < 14) (f : Nat) : Good (parse f .suf (shi x ++ R)) x R := by
  cases f with
  | zero => exact .inl rfl
  | succ f =>
    refine (h f R hR).bind fun R' e => ?_
    rw [sg_of e, if_neg (prec_not_twice hp)]
    exact .okg e
theorem opd_pre (hx : shaped x = true) (h : Opd x) (hR : okR R) (hp : prec (sg R) < 14) (f : Nat) : Good (parse f .pre (shi x ++ R)) x R := by
  cases f with
  | zero => exact .inl rfl
  | succ f =>
    obtain ⟨c, r, he, hc⟩ := shi_head hx
    have hs := sg_opd (c := c) (r ++ R) hc
    rw [← List.cons_append, ← he] at hs
    rw [pre_plain f hs.1, hs.2]
    exact opd_suf h hR hp f
theorem opd_lev (hx : shaped x = true) (h : Opd x) (hR : okR R) (n : Nat) (hn : n ≤ 10) (hp : prec (sg R) < 4 + n) (f : Nat) : Good (parse f (.lev n) (shi x ++ R)) x R :=
  up_lev 10 (Nat.le_refl _) (up_pre (opd_pre hx h hR (by omega))) (10 - n) n (by omega) hp f
theorem opd_choice (hx : shaped x = true) (h : Opd x) (hR : okR R) (hp : prec (sg R) < 3) (f : Nat) : Good (parse f .choice (shi x ++ R)) x R :=
  up_choice hp (opd_lev hx h hR 0 (by omega) (by omega)) f
theorem opd_assign (hx : shaped x = true) (h : Opd x) (hR : okR R) (hp : prec (sg R) < 2) (f : Nat) : Good (parse f .assign (shi x ++ R)) x R :=
  up_assign hp (opd_choice hx h hR (by omega)) f
theorem opd_expr (hx : shaped x = true) (h : Opd x) (hR : okR R) (hp : prec (sg R) < 1) (f : Nat) : Good (parse f .expr (shi x ++ R)) x R :=
  up_expr hp (opd_assign hx h hR (by omega)) f
/-- behind a blank -/
theorem opd_sp (hx : shaped x = true) {K : Kd} (hK : K.first) {f : Nat} (h : Good (parse f K (shi x ++ R)) x R) : Good (parse f K (32 :: (shi x ++ R))) x R := by
  obtain ⟨c, r, he, hc⟩ := shi_head hx
  obtain ⟨h92, hb, _⟩ := opd_facts hc
  rw [← parse_gap f K _ hK, he, List.cons_append, gap_sp hb h92, ← List.cons_append, ← he]
  exact h
end

end Go.Proofs.YtiigclkebnmopaaGreatDoor

namespace Go.Proofs.YtiigclkebnmopaaGreatDoor

section
variable {a b c : Ex} {R : List UInt8}
theorem shw_one (op : List UInt8) (h : leafO op = false) : shw (bx op [a]) = aheadO op ++ (shi a ++ behindO op) := by
  unfold leafO at h
  simp at h
  unfold bx shw shB
  rw [if_neg h.1.1, if_neg h.1.2, if_neg h.2]
  rfl
theorem shw_two (op : List UInt8) (h : leafO op = false) : shw (bx op [a, b]) = shi a ++ 32 :: (op ++ 32 :: shi b) := by
  unfold leafO at h
  simp at h
  unfold bx shw shB
  rw [if_neg h.1.1, if_neg h.1.2, if_neg h.2]
  rfl
theorem shw_three : shw (bx [63] [a, b, c]) = shi a ++ 32 :: 63 :: 32 :: (shi b ++ 32 :: 58 :: 32 :: shi c) := by
  unfold bx shw shB
  rw [if_neg (by decide), if_neg (by decide), if_neg (by decide)]
  rfl

/-- two operands of a level -/
theorem full_lev (n : Nat) (hn : n < 10) (op : List UInt8) (ho : op ∈ levels n) (hb : op ∈ between) (hx : shaped a = true) (hy : shaped b = true) (ha : Opd a) (hc : Opd b) (hR : okR R) (hp : prec (sg R) = 0) (f : Nat) : Good (parse f .expr (shi a ++ 32 :: (op ++ 32 :: (shi b ++ R)))) (bx op [a, b]) R := by
  have hs := sg_between hb (shi b ++ R)
  have hpo := prec_lev n hn op ho
  refine up_lev0 n (by omega) (by omega) (fun f => ?_) f
  cases f with
  | zero => exact .inl rfl
  | succ f =>
    rw [show ∀ l, parse (f + 1) (.lev n) l = if n = 10 then parse f .pre l else (parse f (.lev (n + 1)) l).bind fun x l1 => parse f (.levL n x) l1 from fun _ => rfl, if_neg (by omega)]
    refine (opd_lev hx ha (okR.between hb _) (n + 1) (by omega) (by rw [hs.1]; omega) f).bind fun R1 h1 => ?_
    cases f with
    | zero => exact .inl rfl
    | succ f =>
      have h2 := sg_of h1
      rw [hs.1] at h2
      rw [show ∀ x, parse (f + 1) (.levL n x) R1 = if sg R1 ∈ levels n then (parse f (.lev (n + 1)) (aft (sg R1) R1)).bind fun y l1 => parse f (.levL n (bx (sg R1) [x, y])) l1 else .ok x (gap R1) from fun _ => rfl, h2, if_pos ho, aft_of _ h1, hs.2.1]
      refine (opd_sp hy (K := .lev (n + 1)) trivial (opd_lev hy hc hR (n + 1) (by omega) (by omega) f)).bind fun R2 h3 => ?_
      cases f with
      | zero => exact .inl rfl
      | succ f =>
        rw [show ∀ x, parse (f + 1) (.levL n x) R2 = if sg R2 ∈ levels n then (parse f (.lev (n + 1)) (aft (sg R2) R2)).bind fun y l1 => parse f (.levL n (bx (sg R2) [x, y])) l1 else .ok x (gap R2) from fun _ => rfl, if_neg (by rw [sg_of h3]; exact prec_not_lev (m := n) (by omega) (Nat.le_refl n))]
        exact .okg h3
theorem full_comma (hx : shaped a = true) (hy : shaped b = true) (ha : Opd a) (hc : Opd b) (hR : okR R) (hp : prec (sg R) = 0) (f : Nat) : Good (parse f .expr (shi a ++ 32 :: ([44] ++ 32 :: (shi b ++ R)))) (bx [44] [a, b]) R := by
  have hb : ([44] : List UInt8) ∈ between := by decide
  have hs := sg_between hb (shi b ++ R)
  cases f with
  | zero => exact .inl rfl
  | succ f =>
    rw [show ∀ l, parse (f + 1) .expr l = (parse f .assign l).bind fun x l1 => parse f (.exprL x) l1 from fun _ => rfl]
    refine (opd_assign hx ha (okR.between hb _) (by rw [hs.1]; decide) f).bind fun R1 h1 => ?_
    cases f with
    | zero => exact .inl rfl
    | succ f =>
      have h2 := sg_of h1
      rw [hs.1] at h2
      rw [show ∀ x, parse (f + 1) (.exprL x) R1 = if sg R1 = [44] then (parse f .assign (aft (sg R1) R1)).bind fun y l1 => parse f (.exprL (bx (sg R1) [x, y])) l1 else .ok x (gap R1) from fun _ => rfl, h2, if_pos rfl, aft_of _ h1, hs.2.1]
      refine (opd_sp hy (K := .assign) trivial (opd_assign hy hc hR (by omega) f)).bind fun R2 h3 => ?_
      exact up_exprL (by omega) h3 f
theorem full_assign (op : List UInt8) (ho : op ∈ assigns) (ht : target a = true) (hx : shaped a = true) (hy : shaped b = true) (ha : Opd a) (hc : Opd b) (hR : okR R) (hp : prec (sg R) = 0) (f : Nat) : Good (parse f .expr (shi a ++ 32 :: (op ++ 32 :: (shi b ++ R)))) (bx op [a, b]) R := by
  have hb : op ∈ between := by
    unfold between
    simp [ho]
  have hs := sg_between hb (shi b ++ R)
  have hpo : prec op = 2 := by
    have : ∀ s ∈ assigns, prec s = 2 := by decide
    exact this op ho
  refine up_expr (by omega) (fun f => ?_) f
  cases f with
  | zero => exact .inl rfl
  | succ f =>
    rw [show ∀ l, parse (f + 1) .assign l = (parse f .choice l).bind fun x l1 => if sg l1 ∈ assigns then (if target x = true then (parse f .assign (aft (sg l1) l1)).bind fun y l2 => .ok (bx (sg l1) [x, y]) l2 else badAt l1) else .ok x (gap l1) from fun _ => rfl]
    refine (opd_choice hx ha (okR.between hb _) (by rw [hs.1]; omega) f).bind fun R1 h1 => ?_
    have h2 := sg_of h1
    rw [hs.1] at h2
    rw [h2, if_pos ho, if_pos ht, aft_of _ h1, hs.2.1]
    refine (opd_sp hy (K := .assign) trivial (opd_assign hy hc hR (by omega) f)).bind fun R2 h3 => ?_
    exact .ok h3
theorem full_choice (hx : shaped a = true) (hy : shaped b = true) (hz : shaped c = true) (ha : Opd a) (hb : Opd b) (hc : Opd c) (hR : okR R) (hp : prec (sg R) = 0) (f : Nat) : Good (parse f .expr (shi a ++ 32 :: ([63] ++ 32 :: (shi b ++ 32 :: ([58] ++ 32 :: (shi c ++ R)))))) (bx [63] [a, b, c]) R := by
  have hq : ([63] : List UInt8) ∈ between := by decide
  have hd : ([58] : List UInt8) ∈ between := by decide
  have hs := sg_between hq (shi b ++ 32 :: ([58] ++ 32 :: (shi c ++ R)))
  have hs2 := sg_between hd (shi c ++ R)
  refine up_expr (by omega) (up_assign (by omega) (fun f => ?_)) f
  cases f with
  | zero => exact .inl rfl
  | succ f =>
    rw [show ∀ l, parse (f + 1) .choice l = (parse f (.lev 0) l).bind fun x l1 => if sg l1 = [63] then (parse f .expr (aft (sg l1) l1)).hard.bind fun a l2 =>
      if sg l2 = [58] then (parse f .choice (aft (sg l2) l2)).bind fun b l3 => .ok (bx [63] [x, a, b]) l3 else badAt l2
    else .ok x (gap l1) from fun _ => rfl]
    refine (opd_lev hx ha (okR.between hq _) 0 (by omega) (by rw [hs.1]; decide) f).bind fun R1 h1 => ?_
    have h2 := sg_of h1
    rw [hs.1] at h2
    rw [h2, if_pos rfl, aft_of _ h1, hs.2.1]
    refine (opd_sp hy (K := .expr) trivial (opd_expr hy hb (okR.between hd _) (by rw [hs2.1]; decide) f)).hard.bind fun R2 h3 => ?_
    have h4 := sg_of h3
    rw [hs2.1] at h4
    rw [h4, if_pos rfl, aft_of _ h3, hs2.2.1]
    refine (opd_sp hz (K := .choice) trivial (opd_choice hz hc hR (by omega) f)).bind fun R3 h5 => ?_
    exact .ok h5
/-- a sign ahead of an operand -/
theorem full_ahead (s : UInt8) (hs : s = 45 ∨ s = 43 ∨ s = 33 ∨ s = 126) (hx : shaped a = true) (ha : Opd a) (hR : okR R) (hp : prec (sg R) = 0) (f : Nat) : Good (parse f .expr (s :: (shi a ++ R))) (bx (if s = 45 ∨ s = 43 then [117, s] else [s]) [a]) R := by
  obtain ⟨d, r, he, hd⟩ := shi_head hx
  have h1 := sg_ahead (s := s) (r ++ R) hs hd
  rw [← List.cons_append, ← he] at h1
  refine up_lev0 10 (by omega) (by omega) (up_pre fun f => ?_) f
  cases f with
  | zero => exact .inl rfl
  | succ f =>
    have hk := opd_pre hx ha hR (by omega) f
    rw [parse]
    rcases hs with rfl | rfl | rfl | rfl
    all_goals
      simp only [h1.1, h1.2.1]
      exact hk.bind fun R1 e => .ok e
/-- a sign twice ahead of an operand -/
theorem full_twice (s : UInt8) (hs : s = 43 ∨ s = 45) (ht : target a = true) (hx : shaped a = true) (ha : Opd a) (hR : okR R) (hp : prec (sg R) = 0) (f : Nat) : Good (parse f .expr (s :: s :: (shi a ++ R))) (bx [s, s, 118] [a]) R := by
  obtain ⟨d, r, he, hd⟩ := shi_head hx
  obtain ⟨h92, hb, _⟩ := opd_facts hd
  have h1 := sg_twice (c := s) (shi a ++ R) hs
  refine up_lev0 10 (by omega) (by omega) (up_pre fun f => ?_) f
  cases f with
  | zero => exact .inl rfl
  | succ f =>
    have hk := ha f R hR
    have hg : gap (shi a ++ R) = shi a ++ R := by rw [he, List.cons_append]; exact gap_no hb h92 _
    rw [parse]
    rcases hs with rfl | rfl
    all_goals
      simp only [h1.1, h1.2.1, hg, true_or, or_true, if_true]
      exact hk.bind fun R1 e => by rw [if_pos ht]; exact .ok e
/-- a sign twice behind an operand -/
theorem full_behind (s : UInt8) (hs : s = 43 ∨ s = 45) (ht : target a = true) (hx : shaped a = true) (ha : Opd a) (hp : prec (sg R) = 0) (f : Nat) : Good (parse f .expr (shi a ++ s :: s :: R)) (bx [118, s, s] [a]) R := by
  obtain ⟨d, r, he, hd⟩ := shi_head hx
  have h1 := sg_twice (c := s) R hs
  refine up_lev0 10 (by omega) (by omega) (up_pre fun f => ?_) f
  cases f with
  | zero => exact .inl rfl
  | succ f =>
    have h2 := sg_opd (c := d) (r ++ s :: s :: R) hd
    rw [← List.cons_append, ← he] at h2
    rw [pre_plain f h2.1, h2.2]
    cases f with
    | zero => exact .inl rfl
    | succ f =>
      rw [show ∀ l, parse (f + 1) .suf l = (parse f .prim l).bind fun x l1 =>
        if sg l1 = [43, 43] ∨ sg l1 = [45, 45] then (if target x = true then .ok (bx (118 :: sg l1) [x]) (aft (sg l1) l1) else .stuck (gap l1)) else .ok x (gap l1) from fun _ => rfl]
      refine (ha f _ (okR.twice R hs)).bind fun R1 h3 => ?_
      have h4 := sg_of h3
      rw [h1.1] at h4
      rw [h4, if_pos (by rcases hs with rfl | rfl <;> simp), if_pos ht, aft_of _ h3, h1.2.1]
      exact .ok rfl
end

theorem ar_two {op : List UInt8} (h : arO op = 2) : (∃ n, n < 10 ∧ op ∈ levels n ∧ op ∈ between) ∨ op = [44] ∨ op ∈ assigns := by
  unfold arO at h
  split at h
  · cases h
  · split at h
    · cases h
    · split at h
      · rename_i h1
        rcases h1 with h1 | h1 | h1
        · left
          have : ∀ op ∈ binO, ∃ n, n < 10 ∧ op ∈ levels n := by
            intro op ho
            simp [binO] at ho
            rcases ho with rfl | rfl | rfl | rfl | rfl | rfl | rfl | rfl | rfl | rfl | rfl | rfl | rfl | rfl | rfl | rfl | rfl | rfl
            · exact ⟨9, by decide⟩
            · exact ⟨9, by decide⟩
            · exact ⟨9, by decide⟩
            · exact ⟨8, by decide⟩
            · exact ⟨8, by decide⟩
            · exact ⟨7, by decide⟩
            · exact ⟨7, by decide⟩
            · exact ⟨6, by decide⟩
            · exact ⟨6, by decide⟩
            · exact ⟨6, by decide⟩
            · exact ⟨6, by decide⟩
            · exact ⟨5, by decide⟩
            · exact ⟨5, by decide⟩
            · exact ⟨4, by decide⟩
            · exact ⟨3, by decide⟩
            · exact ⟨2, by decide⟩
            · exact ⟨1, by decide⟩
            · exact ⟨0, by decide⟩
          obtain ⟨n, h2, h3⟩ := this op h1
          exact ⟨n, h2, h3, by unfold between; simp [h1]⟩
        · exact .inr (.inl h1)
        · exact .inr (.inr h1)
      · cases h
theorem ar_one {op : List UInt8} (h : arO op = 1) : op ∈ unO := by
  unfold arO at h
  split at h
  · assumption
  · split at h
    · cases h
    · split at h <;> cases h
theorem ar_three {op : List UInt8} (h : arO op = 3) : op = [63] := by
  unfold arO at h
  split at h
  · cases h
  · split at h
    · assumption
    · split at h <;> cases h
theorem ar_cases (op : List UInt8) : arO op = 0 ∨ arO op = 1 ∨ arO op = 2 ∨ arO op = 3 := by
  unfold arO
  split
  · simp
  · split
    · simp
    · split <;> simp
theorem leaf_false {op : List UInt8} (h1 : op ≠ [110]) (h2 : op ≠ [118]) (h3 : op ≠ [101]) : leafO op = false := by
  unfold leafO
  simp [h1, h2, h3]
theorem shaped_sizes {l : List Ex} (h : shapeds l = true) : ∀ x ∈ l, shaped x = true := by
  induction l with
  | nil => intro x hx; cases hx
  | cons y l ih =>
    unfold shapeds at h
    simp only [Bool.and_eq_true] at h
    intro x hx
    rcases List.mem_cons.1 hx with rfl | hx
    · exact h.1
    · exact ih h.2 x hx
theorem size_in {x : Ex} : ∀ {l : List Ex}, x ∈ l → x.size ≤ Ex.sizes l
  | [], h => by cases h
  | y :: l, h => by
    have e : Ex.sizes (y :: l) = y.size + Ex.sizes l := by simp [Ex.sizes]
    rcases List.mem_cons.1 h with rfl | h
    · omega
    · have := size_in h
      omega

theorem read_step : ∀ (N : Nat) (x : Ex), x.size ≤ N → shaped x = true → Full x ∧ Opd x
  | 0, x, h, _ => by have := size_pos x; omega
  | N + 1, .mk op n nm args, hN, hs => by
    have hsz : (Ex.mk op n nm args).size = Ex.sizes args + 1 := by simp [Ex.size]
    have IH : shapeds args = true → ∀ y ∈ args, shaped y = true ∧ Full y ∧ Opd y := fun h y hy => by
      have h1 := shaped_sizes h y hy
      have h2 := size_in hy
      exact ⟨h1, read_step N y (by omega) h1⟩
    have leaf : leafO op = true → Opd (.mk op n nm args) → Full (.mk op n nm args) ∧ Opd (.mk op n nm args) := fun h0 ho => by
      refine ⟨fun f R hR hp => ?_, ho⟩
      have e : shw (.mk op n nm args) = shi (.mk op n nm args) := by
        unfold shi inn
        rw [if_pos (show leafO (Ex.mk op n nm args).op = true from h0)]
      rw [e]
      exact opd_expr hs ho hR (by omega) f
    have node : leafO op = false → Full (.mk op n nm args) → Full (.mk op n nm args) ∧ Opd (.mk op n nm args) := fun h0 hf => ⟨hf, opd_of_full _ h0 hf⟩
    have hs0 := hs
    unfold shaped at hs
    by_cases h1 : op = [110]
    · rw [if_pos h1] at hs
      simp at hs
      obtain ⟨⟨⟨h2, h3⟩, rfl⟩, rfl⟩ := hs
      subst h1
      exact leaf rfl (opd_num n h2 h3)
    · rw [if_neg h1] at hs
      by_cases h2 : op = [118]
      · rw [if_pos h2] at hs
        simp at hs
        obtain ⟨⟨rfl, rfl⟩, h3⟩ := hs
        subst h2
        exact leaf rfl (opd_var nm h3)
      · rw [if_neg h2] at hs
        by_cases h3 : op = [101]
        · rw [if_pos h3] at hs
          simp at hs
          obtain ⟨⟨⟨rfl, h4⟩, h5⟩, h6⟩ := hs
          match args, h4 with
          | [y], _ =>
            subst h3
            exact leaf rfl (opd_elem nm y h5 (IH h6 y (by simp)).2.1)
        · rw [if_neg h3] at hs
          have hl := leaf_false h1 h2 h3
          simp only [Bool.and_eq_true, bne_iff_ne, ne_eq, beq_iff_eq] at hs
          obtain ⟨⟨⟨⟨⟨ha, hb⟩, rfl⟩, rfl⟩, h6⟩, h7⟩ := hs
          refine node hl fun f R hR hp => ?_
          rcases ar_cases op with h0 | h0 | h0 | h0
          · exact absurd h0 ha
          · rw [h0] at hb
            match args, hb with
            | [a], _ =>
              obtain ⟨k1, _, k2⟩ := IH h6 a (by simp)
              rw [show Ex.mk op 0 [] [a] = bx op [a] from rfl, shw_one op hl]
              have hu := ar_one h0
              have ht : op ∈ setU → target a = true := fun h => by
                rw [show setsO op = true from by unfold setsO; simp [h]] at h7
                simpa [tgt] using h7
              simp [unO, setU] at hu
              rcases hu with rfl | rfl | rfl | rfl | rfl | rfl | rfl | rfl
              · have := full_ahead 45 (by simp) k1 k2 hR hp f
                simpa [aheadO, behindO] using this
              · have := full_ahead 43 (by simp) k1 k2 hR hp f
                simpa [aheadO, behindO] using this
              · have := full_ahead 33 (by simp) k1 k2 hR hp f
                simpa [aheadO, behindO] using this
              · have := full_ahead 126 (by simp) k1 k2 hR hp f
                simpa [aheadO, behindO] using this
              · have := full_twice 43 (by simp) (ht (by decide)) k1 k2 hR hp f
                simpa [aheadO, behindO] using this
              · have := full_twice 45 (by simp) (ht (by decide)) k1 k2 hR hp f
                simpa [aheadO, behindO] using this
              · have := full_behind 43 (by simp) (ht (by decide)) k1 k2 hp f
                simpa [aheadO, behindO] using this
              · have := full_behind 45 (by simp) (ht (by decide)) k1 k2 hp f
                simpa [aheadO, behindO] using this
          · rw [h0] at hb
            match args, hb with
            | [a, b], _ =>
              obtain ⟨k1, _, k2⟩ := IH h6 a (by simp)
              obtain ⟨j1, _, j2⟩ := IH h6 b (by simp)
              rw [show Ex.mk op 0 [] [a, b] = bx op [a, b] from rfl, shw_two op hl, show (shi a ++ 32 :: (op ++ 32 :: shi b)) ++ R = shi a ++ 32 :: (op ++ 32 :: (shi b ++ R)) by simp]
              rcases ar_two h0 with ⟨m, hm, hm1, hm2⟩ | rfl | hm
              · exact full_lev m hm op hm1 hm2 k1 j1 k2 j2 hR hp f
              · exact full_comma k1 j1 k2 j2 hR hp f
              · have ht : target a = true := by
                  rw [show setsO op = true from by unfold setsO; simp [hm]] at h7
                  simpa [tgt] using h7
                exact full_assign op hm ht k1 j1 k2 j2 hR hp f
          · rw [h0] at hb
            obtain rfl := ar_three h0
            match args, hb with
            | [a, b, c], _ =>
              obtain ⟨k1, _, k2⟩ := IH h6 a (by simp)
              obtain ⟨j1, _, j2⟩ := IH h6 b (by simp)
              obtain ⟨i1, _, i2⟩ := IH h6 c (by simp)
              rw [show Ex.mk [63] 0 [] [a, b, c] = bx [63] [a, b, c] from rfl, shw_three]
              have := full_choice k1 j1 i1 k2 j2 i2 hR hp f
              simpa using this
/-- what has the form of an expression is read back from what is printed -/
theorem read_back (x : Ex) (h : shaped x = true) (f : Nat) (hf : parse f .expr (shw x) ≠ .none) : ∃ l, parse f .expr (shw x) = .ok x l ∧ gap l = [] := by
  have h1 := (read_step x.size x (Nat.le_refl _) h).1 f [] okR.nil (by decide)
  rw [List.append_nil] at h1
  rcases h1 with h1 | ⟨l, h1, h2⟩
  · exact absurd h1 hf
  · exact ⟨l, h1, h2⟩

end Go.Proofs.YtiigclkebnmopaaGreatDoor

namespace Go.Proofs.YtiigclkebnmopaaGreatDoor

/-- what was read has the form -/
def ShO (o : Out) : Prop := ∀ x l, o = .ok x l → shaped x = true
theorem ShO.ok {x : Ex} {l : List UInt8} (h : shaped x = true) : ShO (.ok x l) := fun _ _ e => by cases e; exact h
theorem ShO.bind {o : Out} {F : Ex → List UInt8 → Out} (h : ShO o) (hF : ∀ x l, o = .ok x l → shaped x = true → ShO (F x l)) : ShO (o.bind F) := by
  cases o with
  | ok x l => exact hF x l rfl (h x l rfl)
  | stuck l => intro _ _ e; cases e
  | bad l => intro _ _ e; cases e
  | more => intro _ _ e; cases e
  | none => intro _ _ e; cases e
theorem ShO.hard {o : Out} (h : ShO o) : ShO o.hard := by
  cases o with
  | ok x l => exact h
  | stuck l => intro _ _ e; cases e
  | bad l => intro _ _ e; cases e
  | more => intro _ _ e; cases e
  | none => intro _ _ e; cases e
theorem ShO.badAt (l : List UInt8) : ShO (badAt l) := by
  unfold Go.Proofs.YtiigclkebnmopaaGreatDoor.badAt
  split <;> (intro _ _ e; cases e)
theorem ShO.bad (l : List UInt8) : ShO (.bad l) := fun _ _ e => by cases e
theorem ShO.more : ShO .more := fun _ _ e => by cases e

theorem shaped_node {op : List UInt8} {l : List Ex} (h : leafO op = false) (h1 : arO op = l.length) (h2 : l.length ≠ 0) (h3 : shapeds l = true) (h4 : setsO op = true → tgt l = true) : shaped (bx op l) = true := by
  unfold leafO at h
  simp at h
  unfold bx shaped
  rw [if_neg h.1.1, if_neg h.1.2, if_neg h.2, h1]
  have : (!setsO op || tgt l) = true := by
    cases hs : setsO op
    · rfl
    · rw [h4 hs]; rfl
  simp [h2, h3, this]
theorem lev_bin : ∀ n, n < 10 → ∀ op ∈ levels n, leafO op = false ∧ arO op = 2 ∧ setsO op = false := by decide
theorem assign_bin : ∀ op ∈ assigns, leafO op = false ∧ arO op = 2 := by decide
theorem shaped_lev {n : Nat} {op : List UInt8} {x y : Ex} (h : op ∈ levels n) (hx : shaped x = true) (hy : shaped y = true) : shaped (bx op [x, y]) = true := by
  have hn : n < 10 := by
    rcases Nat.lt_or_ge n 10 with h1 | h1
    · exact h1
    · rw [levels_big n h1] at h; cases h
  obtain ⟨h1, h2, h3⟩ := lev_bin n hn op h
  exact shaped_node h1 h2 (by simp) (by simp [shapeds, hx, hy]) (fun e => by rw [h3] at e; cases e)
theorem shaped_assign {op : List UInt8} {x y : Ex} (h : op ∈ assigns) (ht : target x = true) (hx : shaped x = true) (hy : shaped y = true) : shaped (bx op [x, y]) = true := by
  obtain ⟨h1, h2⟩ := assign_bin op h
  exact shaped_node h1 h2 (by simp) (by simp [shapeds, hx, hy]) (fun _ => ht)

theorem run_mem (q : UInt8 → Bool) : ∀ l, ∀ c ∈ (run q l).1, q c = true
  | [], c, h => by simp [run] at h
  | [a], c, h => by
    unfold run at h
    split at h
    · rename_i h1
      simp at h
      rw [h]; exact h1
    · simp at h
  | a :: b :: r, c, h => by
    unfold run at h
    split at h
    · exact run_mem q r c h
    · split at h
      · rename_i h1
        rcases List.mem_cons.1 h with rfl | h
        · exact h1
        · exact run_mem q (b :: r) c h
      · simp at h
theorem run_first (q : UInt8 → Bool) : ∀ (l : List UInt8) (c : UInt8) (r : List UInt8), skipJ l = c :: r → q c = true → ∃ t, (run q l).1 = c :: t
  | [], c, r, h, _ => by simp [skipJ] at h
  | [a], c, r, h, hq => by
    simp [skipJ] at h
    obtain ⟨rfl, rfl⟩ := h
    exact ⟨[], by simp [run, hq]⟩
  | a :: b :: r', c, r, h, hq => by
    unfold skipJ at h
    unfold run
    split at h
    · rename_i h1
      rw [if_pos h1]
      exact run_first q r' c r h hq
    · rename_i h1
      rw [if_neg h1]
      simp only [List.cons.injEq] at h
      obtain ⟨rfl, _⟩ := h
      rw [if_pos hq]
      exact ⟨_, rfl⟩
theorem isNm_runP {l r : List UInt8} {c : UInt8} (h : skipJ l = c :: r) (hc : isL c = true) (hl : (run isW l).1.length ≤ 64) : isNm (run isW l).1 = true := by
  obtain ⟨t, ht⟩ := run_first isW l c r h (isL_isW hc)
  have hm := run_mem isW l
  rw [ht] at hm hl ⊢
  unfold isNm
  simp only [Bool.and_eq_true, decide_eq_true_eq, List.all_eq_true]
  exact ⟨⟨hl, hc⟩, fun d hd => hm d (by simp [hd])⟩
theorem numV_top (base : Nat) : ∀ (l : List UInt8) (n m : Nat), n ≤ maxN → numV base l n = some m → m ≤ maxN
  | [], n, m, h, e => by
    unfold numV at e
    cases e
    exact h
  | c :: r, n, m, h, e => by
    unfold numV at e
    split at e
    · rename_i h1
      exact numV_top base r _ m h1.2 e
    · cases e
theorem numeral_sh (g : List UInt8) : ShO (numeral g) := by
  unfold numeral
  split
  · rename_i n hn
    unfold numOf at hn
    split at hn
    · cases hn
    · have := numV_top _ _ _ _ (Nat.zero_le _) hn
      refine .ok ?_
      unfold shaped
      rw [if_pos rfl]
      simp
      omega
  · exact .bad _
theorem shaped_vx {nm : List UInt8} (h : varOk nm = true) : shaped (vx nm) = true := by
  unfold vx shaped
  rw [if_neg (by decide), if_pos rfl]
  simp [h]
theorem brace_sh (b : Bool) (g l : List UInt8) {nm : List UInt8} (h : varOk nm = true) : ShO (brace b g l nm) := by
  unfold brace
  split
  · split
    · exact .ok (shaped_vx h)
    · split
      · exact .more
      · exact .bad _
  · exact .ok (shaped_vx h)
theorem dollarB_sh (b : Bool) (g l : List UInt8) : ShO (dollarB b g l) := by
  unfold dollarB
  split
  · exact .more
  · rename_i c r hk
    split
    · rename_i hc
      split
      · rename_i hl
        exact brace_sh _ _ _ (by unfold varOk; rw [isNm_runP hk hc hl]; rfl)
      · exact .bad _
    · split
      · split
        · rename_i hp
          refine brace_sh _ _ _ ?_
          unfold varOk
          have : (run isD l).1.all isD = true := by
            rw [List.all_eq_true]
            exact run_mem isD l
          simp [hp, this]
        · exact .bad _
      · split
        · rename_i h
          refine brace_sh _ _ _ ?_
          rcases h with h | rfl | rfl
          · unfold varOk
            have h1 : posOk [c] = true := by
              have : ∀ d : Fin 256, isD (UInt8.ofNat d.val) = true → posOk [UInt8.ofNat d.val] = true := by decide +kernel
              have h2 := this ⟨c.toNat, c.toNat_lt⟩
              rw [UInt8.ofNat_toNat] at h2
              exact h2 h
            simp [h, h1]
          · rfl
          · rfl
        · exact .bad _
theorem dollar_sh (g : List UInt8) : ShO (dollar g) := by
  unfold dollar
  split
  · exact dollarB_sh _ _ _
  · exact dollarB_sh _ _ _

/-- what was read ahead has the form -/
def Kd.sh : Kd → Prop
  | .exprL x => shaped x = true
  | .levL _ x => shaped x = true
  | _ => True
theorem parse_shaped : ∀ (f : Nat) (K : Kd) (l : List UInt8), K.sh → ShO (parse f K l) := by
  intro f
  induction f with
  | zero => intro K l _ x l1 e; cases e
  | succ f ih =>
    intro K l hK
    cases K with
    | expr => exact (ih .assign l trivial).bind fun x l1 _ hx => ih (.exprL x) l1 hx
    | exprL x =>
      unfold parse
      split
      · rename_i h
        refine (ih .assign _ trivial).bind fun y l1 _ hy => ih (.exprL _) l1 ?_
        rw [h]
        exact shaped_node (by decide) rfl (by simp) (by simp [shapeds, show shaped x = true from hK, hy]) (fun e => absurd e (by decide))
      · exact .ok hK
    | assign =>
      unfold parse
      refine (ih .choice l trivial).bind fun x l1 _ hx => ?_
      split
      · rename_i h
        split
        · rename_i ht
          exact (ih .assign _ trivial).bind fun y l2 _ hy => .ok (shaped_assign h ht hx hy)
        · exact .badAt _
      · exact .ok hx
    | choice =>
      unfold parse
      refine (ih (.lev 0) l trivial).bind fun x l1 _ hx => ?_
      split
      · refine (ih .expr _ trivial).hard.bind fun a l2 _ ha => ?_
        split
        · exact (ih .choice _ trivial).bind fun b l3 _ hb => .ok (shaped_node (by decide) rfl (by simp) (by simp [shapeds, hx, ha, hb]) (fun e => absurd e (by decide)))
        · exact .badAt _
      · exact .ok hx
    | lev n =>
      unfold parse
      split
      · exact ih .pre l trivial
      · exact (ih (.lev (n + 1)) l trivial).bind fun x l1 _ hx => ih (.levL n x) l1 hx
    | levL n x =>
      unfold parse
      split
      · rename_i h
        exact (ih (.lev (n + 1)) _ trivial).bind fun y l1 _ hy => ih (.levL n _) l1 (shaped_lev h hK hy)
      · exact .ok hK
    | pre =>
      unfold parse
      split
      · rename_i h
        refine (ih .prim _ trivial).bind fun x l1 _ hx => ?_
        split
        · rename_i ht
          refine .ok ?_
          rcases h with h | h
          all_goals
            rw [h]
            exact shaped_node (by decide) rfl (by simp) (by simp [shapeds, hx]) (fun _ => ht)
        · exact .bad _
      · split
        · rename_i h
          refine (ih .pre _ trivial).bind fun x l1 _ hx => .ok ?_
          rcases h with h | h
          all_goals
            rw [h]
            exact shaped_node (by decide) rfl (by simp) (by simp [shapeds, hx]) (fun e => absurd e (by decide))
        · split
          · rename_i h
            refine (ih .pre _ trivial).bind fun x l1 _ hx => .ok ?_
            rcases h with h | h
            all_goals
              rw [h]
              exact shaped_node (by decide) rfl (by simp) (by simp [shapeds, hx]) (fun e => absurd e (by decide))
          · exact ih .suf _ trivial
    | suf =>
      unfold parse
      refine (ih .prim l trivial).bind fun x l1 _ hx => ?_
      split
      · rename_i h
        split
        · rename_i ht
          refine .ok ?_
          rcases h with h | h
          all_goals
            rw [h]
            exact shaped_node (by decide) rfl (by simp) (by simp [shapeds, hx]) (fun _ => ht)
        · intro _ _ e; cases e
      · exact .ok hx
    | prim =>
      unfold parse
      split
      · refine (ih .expr _ trivial).hard.bind fun x l1 _ hx => ?_
        split
        · exact .ok hx
        · exact .badAt _
      · split
        · exact .more
        · rename_i c r hg
          split
          · exact numeral_sh _
          · split
            · rename_i hc
              have hk : skipJ (c :: r) = c :: r := by
                have h := skipJ_gap l
                rw [hg] at h
                exact h
              split
              · rename_i hl
                have hn := isNm_runP hk hc hl
                split
                · refine (ih .expr _ trivial).hard.bind fun x l1 _ hx => ?_
                  split
                  · refine .ok ?_
                    unfold shaped
                    rw [if_neg (by decide), if_neg (by decide), if_pos rfl]
                    simp [hn, shapeds, hx]
                  · exact .badAt _
                · exact .ok (shaped_vx (by unfold varOk; rw [hn]; rfl))
              · exact .bad _
            · split
              · exact dollar_sh _
              · exact .bad _

end Go.Proofs.YtiigclkebnmopaaGreatDoor
