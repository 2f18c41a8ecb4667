/- TopJoined, plain: how two lines are compared: by their first fields, then as they are. -/
import Derived.Test.YtppnhdcnjbjibaaGreatDoorTjPlain
namespace Go.Proofs.YtppnhdcnjbjibaaGreatDoor

/-- texts are compared -/
def cmpS (x y : List UInt8) : Int := if Op.bytesLess x y = true then -1 else if Op.bytesLess y x = true then 1 else 0
/-- lines are compared -/
def cvV (a b : ByteArray) : Int := if keyN a < keyN b then -1 else if keyN b < keyN a then 1 else 0
theorem cv_neg (a b : ByteArray) : cvV a b < 0 ↔ keyN a < keyN b := by
  unfold cvV
  split
  · rename_i h
    exact ⟨fun _ => h, fun _ => by decide⟩
  · rename_i h
    split
    · exact ⟨fun h2 => absurd h2 (by decide), fun h2 => absurd h2 h⟩
    · exact ⟨fun h2 => absurd h2 (by decide), fun h2 => absurd h2 h⟩
theorem cv_range (a b : ByteArray) : -1 ≤ cvV a b ∧ cvV a b ≤ 1 := by
  unfold cvV
  split
  · decide
  · split <;> decide
theorem cmpS_num (n : Nat) (x y : List UInt8) (hx : x.length ≤ n) (hy : y.length ≤ n) : cmpS x y = if num n x < num n y then -1 else if num n y < num n x then 1 else 0 := by
  unfold cmpS
  by_cases h1 : Op.bytesLess x y = true
  · rw [if_pos h1, if_pos ((num_less n x y hx hy).2 h1)]
  · rw [if_neg h1, if_neg (fun h => h1 ((num_less n x y hx hy).1 h))]
    by_cases h2 : Op.bytesLess y x = true
    · rw [if_pos h2, if_pos ((num_less n y x hy hx).2 h2)]
    · rw [if_neg h2, if_neg (fun h => h2 ((num_less n y x hy hx).1 h))]
theorem cmpS_zero (n : Nat) (x y : List UInt8) (hx : x.length ≤ n) (hy : y.length ≤ n) : cmpS x y = 0 ↔ x = y := by
  rw [cmpS_num n x y hx hy]
  constructor
  · intro h
    by_cases h1 : num n x < num n y
    · rw [if_pos h1] at h; exact absurd h (by decide)
    · rw [if_neg h1] at h
      by_cases h2 : num n y < num n x
      · rw [if_pos h2] at h; exact absurd h (by decide)
      · exact num_inj n x y hx hy (by omega)
  · rintro rfl
    rw [if_neg (by omega), if_neg (by omega)]
theorem cv_eq (a b : ByteArray) (ha : a.size ≤ 200) (hb : b.size ≤ 200) : cvV a b = if cmpS (fldL (bl a)) (fldL (bl b)) = 0 then cmpS (bl a) (bl b) else cmpS (fldL (bl a)) (fldL (bl b)) := by
  have h1 : (bl a).length ≤ 200 := by rw [bl_size]; exact ha
  have h2 : (bl b).length ≤ 200 := by rw [bl_size]; exact hb
  have f1 : (fldL (bl a)).length ≤ 200 := Nat.le_trans (fld_len _) h1
  have f2 : (fldL (bl b)).length ≤ 200 := Nat.le_trans (fld_len _) h2
  have e1 := num2_less 200 (fldL (bl a)) (fldL (bl b)) (bl a) (bl b) f1 f2 h1 h2
  have e2 := num2_less 200 (fldL (bl b)) (fldL (bl a)) (bl b) (bl a) f2 f1 h2 h1
  have z := cmpS_zero 200 _ _ f1 f2
  unfold cvV keyN
  by_cases hz : fldL (bl a) = fldL (bl b)
  · rw [if_pos (z.2 hz)]
    have n1 : ¬ Op.bytesLess (fldL (bl a)) (fldL (bl b)) = true := by
      rw [hz, ← num_less 200 _ _ f2 f2]; omega
    have n2 : ¬ Op.bytesLess (fldL (bl b)) (fldL (bl a)) = true := by
      rw [hz, ← num_less 200 _ _ f2 f2]; omega
    unfold cmpS
    by_cases c1 : Op.bytesLess (bl a) (bl b) = true
    · rw [if_pos c1, if_pos (e1.2 (.inr ⟨hz, c1⟩))]
    · rw [if_neg c1, if_neg (fun h => by rcases e1.1 h with h | h; exact n1 h; exact c1 h.2)]
      by_cases c2 : Op.bytesLess (bl b) (bl a) = true
      · rw [if_pos c2, if_pos (e2.2 (.inr ⟨hz.symm, c2⟩))]
      · rw [if_neg c2, if_neg (fun h => by rcases e2.1 h with h | h; exact n2 h; exact c2 h.2)]
  · rw [if_neg (fun h => hz (z.1 h))]
    unfold cmpS
    by_cases c1 : Op.bytesLess (fldL (bl a)) (fldL (bl b)) = true
    · rw [if_pos c1, if_pos (e1.2 (.inl c1))]
    · rw [if_neg c1, if_neg (fun h => by rcases e1.1 h with h | h; exact c1 h; exact hz h.1)]
      by_cases c2 : Op.bytesLess (fldL (bl b)) (fldL (bl a)) = true
      · rw [if_pos c2, if_pos (e2.2 (.inl c2))]
      · rw [if_neg c2, if_neg (fun h => by rcases e2.1 h with h | h; exact c2 h; exact hz h.1.symm)]
end Go.Proofs.YtppnhdcnjbjibaaGreatDoor
