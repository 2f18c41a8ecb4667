/- The line editor in plain words: what each key makes of a text, a place and what was killed. No program in sight. -/
import Derived.Test.YtokmiommhfbkeaaGreatDoorRow
namespace Go.Proofs.YtokmiommhfbkeaaGreatDoor
open Go.RowKit

def letB (c : UInt8) : Bool := withinB c.toNat 97 122 || withinB c.toNat 65 90
def wordB (c : UInt8) : Bool := letB c || withinB c.toNat 48 57

/-- back over bytes for which p holds -/
def backP (p : UInt8 → Bool) (s : ByteArray) : Nat → Nat
  | 0 => 0
  | k + 1 => if h : k < s.size then (if p s[k] then backP p s k else k + 1) else k + 1
theorem backP_le (p : UInt8 → Bool) (s : ByteArray) (k : Nat) : backP p s k ≤ k := by
  induction k with
  | zero => exact Nat.le_refl _
  | succ k ih => unfold backP; split <;> (try split) <;> omega
theorem backP_yes {p : UInt8 → Bool} {s : ByteArray} {k : Nat} (h : k < s.size) (hp : p s[k] = true) : backP p s (k + 1) = backP p s k := by
  rw [backP, dif_pos h, if_pos hp]
theorem backP_no {p : UInt8 → Bool} {s : ByteArray} {k : Nat} (h : k < s.size) (hp : p s[k] = false) : backP p s (k + 1) = k + 1 := by
  rw [backP, dif_pos h, if_neg (by simp [hp])]
/-- ahead over bytes for which p holds -/
def aheadP (p : UInt8 → Bool) (s : ByteArray) (k : Nat) : Nat :=
  if h : k < s.size then (if p s[k] then aheadP p s (k + 1) else k) else k
termination_by s.size - k
theorem aheadP_yes {p : UInt8 → Bool} {s : ByteArray} {k : Nat} (h : k < s.size) (hp : p s[k] = true) : aheadP p s k = aheadP p s (k + 1) := by
  rw [aheadP, dif_pos h, if_pos hp]
theorem aheadP_no {p : UInt8 → Bool} {s : ByteArray} {k : Nat} (h : k < s.size) (hp : p s[k] = false) : aheadP p s k = k := by
  rw [aheadP, dif_pos h, if_neg (by simp [hp])]
theorem aheadP_end {p : UInt8 → Bool} {s : ByteArray} {k : Nat} (h : ¬ k < s.size) : aheadP p s k = k := by
  rw [aheadP, dif_neg h]
theorem aheadP_ge (p : UInt8 → Bool) (s : ByteArray) (k : Nat) : k ≤ aheadP p s k := by
  induction hd : s.size - k using Nat.strongRecOn generalizing k with
  | _ d ih =>
    by_cases h : k < s.size
    · cases hp : p s[k]
      · rw [aheadP_no h hp]; exact Nat.le_refl _
      · rw [aheadP_yes h hp]; have := ih (s.size - (k + 1)) (by omega) (k + 1) rfl; omega
    · rw [aheadP_end h]; exact Nat.le_refl _
theorem aheadP_le (p : UInt8 → Bool) (s : ByteArray) (k : Nat) (hk : k ≤ s.size) : aheadP p s k ≤ s.size := by
  induction hd : s.size - k using Nat.strongRecOn generalizing k with
  | _ d ih =>
    by_cases h : k < s.size
    · cases hp : p s[k]
      · rw [aheadP_no h hp]; exact hk
      · rw [aheadP_yes h hp]; exact ih (s.size - (k + 1)) (by omega) (k + 1) (by omega) rfl
    · rw [aheadP_end h]; exact hk

def backW (s : ByteArray) (a : Nat) : Nat := backP wordB s (backP (fun c => !wordB c) s a)
def nextW (s : ByteArray) (a : Nat) : Nat := aheadP wordB s (aheadP (fun c => !wordB c) s a)
theorem backW_le (s : ByteArray) (a : Nat) : backW s a ≤ a := Nat.le_trans (backP_le _ _ _) (backP_le _ _ _)
theorem nextW_ge (s : ByteArray) (a : Nat) : a ≤ nextW s a := Nat.le_trans (aheadP_ge _ _ _) (aheadP_ge _ _ _)
theorem nextW_le (s : ByteArray) (a : Nat) (h : a ≤ s.size) : nextW s a ≤ s.size := aheadP_le _ _ _ (aheadP_le _ _ _ h)

/-- what a key turns of a line -/
structure ED where
  text : ByteArray
  a : Nat
  killed : ByteArray
  killing : Bool

def cutT (t : ByteArray) (i j : Nat) : ByteArray := t.extract 0 i ++ t.extract j t.size
def insD (s : ByteArray) (d : ED) : ED :=
  if d.text.size + s.size ≤ 1000 then { d with text := d.text.extract 0 d.a ++ s ++ d.text.extract d.a d.text.size, a := d.a + s.size } else d
def eraD (i j : Nat) (d : ED) : ED := { d with text := cutT d.text i j, a := i }
/-- what is kept of what is killed -/
def keptT (killed s : ByteArray) (ahead : Bool) : ByteArray :=
  if ahead then (killed ++ s).extract ((killed ++ s).size - 1000) (killed ++ s).size else (s ++ killed).extract 0 (min (s ++ killed).size 1000)
def killD (i j : Nat) (was : Bool) (d : ED) : ED :=
  if i = j then d else { text := cutT d.text i j, a := i, killed := if was then keptT d.killed (d.text.extract i j) (decide (d.a < j)) else d.text.extract i j, killing := true }
def swapT (t : ByteArray) (k : Nat) : ByteArray := t.extract 0 k ++ t.extract (k + 1) (k + 2) ++ t.extract k (k + 1) ++ t.extract (k + 2) t.size
def swapD (d : ED) : ED :=
  if d.text.size < 2 ∨ d.a = 0 then d else if d.a = d.text.size then { d with text := swapT d.text (d.a - 2) } else { d with text := swapT d.text (d.a - 1), a := d.a + 1 }
def upC (c : UInt8) : UInt8 := UInt8.ofNat (bits .andNot .u8 c.toNat 32).toNat
def lowC (c : UInt8) : UInt8 := UInt8.ofNat (bits .or .u8 c.toNat 32).toNat
/-- letters of a part of a line, by what becomes of the first one and of the others -/
def letL (first rest : Bool) : List UInt8 → List UInt8
  | [] => []
  | c :: r => if letB c then (if first then upC c else lowC c) :: letL rest rest r else c :: letL first rest r
def lettersT (t : ByteArray) (kind : Int) (i j : Nat) : ByteArray :=
  ⟨(t.data.toList.take i ++ (letL (decide (kind = 16) || decide (kind = 18)) (decide (kind = 16)) ((t.data.toList.take j).drop i) ++ t.data.toList.drop j)).toArray⟩
def lettersD (kind : Int) (d : ED) : ED := { d with text := lettersT d.text kind d.a (nextW d.text d.a), a := nextW d.text d.a }

def actD (kind byte : Int) (was : Bool) (d : ED) : ED :=
  if kind = 1 ∨ kind = 22 then insD ⟨#[UInt8.ofNat byte.toNat]⟩ d
  else if kind = 2 then { d with a := d.a - 1 }
  else if kind = 3 then { d with a := min (d.a + 1) d.text.size }
  else if kind = 4 then { d with a := 0 }
  else if kind = 5 then { d with a := d.text.size }
  else if kind = 6 then (if 0 < d.a then eraD (d.a - 1) d.a d else d)
  else if kind = 7 then (if d.a < d.text.size then eraD d.a (d.a + 1) d else d)
  else if kind = 8 then killD d.a d.text.size was d
  else if kind = 9 then killD 0 d.a was d
  else if kind = 10 then killD (backW d.text d.a) d.a was d
  else if kind = 11 then killD d.a (nextW d.text d.a) was d
  else if kind = 12 then insD d.killed d
  else if kind = 13 then swapD d
  else if kind = 14 then { d with a := backW d.text d.a }
  else if kind = 15 then { d with a := nextW d.text d.a }
  else if kind = 16 ∨ kind = 17 ∨ kind = 18 then lettersD kind d
  else d

end Go.Proofs.YtokmiommhfbkeaaGreatDoor
