/- TopJoined, plain: rows of three texts, their lines and columns; groups of equal keys in a sorted list. -/
import Derived.Test.YtppnhdcnjbjibaaGreatDoorTjLaw
namespace Go.Proofs.YtppnhdcnjbjibaaGreatDoor

/-- a row of three texts -/
abbrev R3 := ByteArray × ByteArray × ByteArray
abbrev bl (s : ByteArray) : List UInt8 := s.data.toList
theorem toB_bl (s : ByteArray) : toB (bl s) = s := by cases s; simp [toB]
theorem bl_toB (l : List UInt8) : bl (toB l) = l := by simp [toB]
theorem toB_size (l : List UInt8) : (toB l).size = l.length := by simp [toB, ByteArray.size]
theorem bl_size (s : ByteArray) : (bl s).length = s.size := by rw [Array.length_toList]; rfl
theorem toB_append (a b : List UInt8) : toB a ++ toB b = toB (a ++ b) := by
  apply ByteArray.ext
  simp [toB, ByteArray.data_append]
theorem bl_append (a b : ByteArray) : bl (a ++ b) = bl a ++ bl b := by simp [bl, ByteArray.data_append]
/-- a text that a row may have -/
def okT (s : ByteArray) : Prop := s.size ≤ 50 ∧ (44 : UInt8) ∉ bl s ∧ (10 : UInt8) ∉ bl s
def okR (r : R3) : Prop := okT r.1 ∧ okT r.2.1 ∧ okT r.2.2
/-- the line of a row -/
def lnL (r : R3) : List UInt8 := Lib.join [bl r.1, bl r.2.1, bl r.2.2] [44]
theorem lnL_eq (r : R3) : lnL r = bl r.1 ++ 44 :: (bl r.2.1 ++ 44 :: bl r.2.2) := by
  unfold lnL
  rw [join_two, join_two, Lib.join_one]
def ln (r : R3) : ByteArray := toB (lnL r)
theorem lnL_no {r : R3} (h : okR r) : (10 : UInt8) ∉ lnL r := by
  rw [lnL_eq]
  intro hm
  rcases List.mem_append.1 hm with hm | hm
  · exact h.1.2.2 hm
  rcases List.mem_cons.1 hm with hm | hm
  · cases hm
  rcases List.mem_append.1 hm with hm | hm
  · exact h.2.1.2.2 hm
  rcases List.mem_cons.1 hm with hm | hm
  · cases hm
  · exact h.2.2.2.2 hm
theorem lnL_len {r : R3} (h : okR r) : (lnL r).length ≤ 152 := by
  have h1 := h.1.1
  have h2 := h.2.1.1
  have h3 := h.2.2.1
  rw [lnL_eq, List.length_append, List.length_cons, List.length_append, List.length_cons, bl_size, bl_size, bl_size]
  omega
/-- the first field of a line -/
def fldL (l : List UInt8) : List UInt8 := l.takeWhile (· != 44)
theorem fld_line {r : R3} (h : okR r) : fldL (lnL r) = bl r.1 := by
  unfold fldL
  rw [lnL_eq, List.takeWhile_append_of_pos (fun x hx => bne_iff_ne.2 fun e => h.1.2.1 (by rw [← e]; exact hx)), List.takeWhile_cons_of_neg (by simp), List.append_nil]
theorem fld_len (l : List UInt8) : (fldL l).length ≤ l.length := List.IsPrefix.length_le (List.takeWhile_prefix _)
/-- a line as a number -/
def keyN (s : ByteArray) : Int := num2 200 (fldL (bl s)) (bl s)
theorem num2_le (n : Nat) (f g a b : List UInt8) (h : num2 n f a ≤ num2 n g b) : num n f ≤ num n g := by
  have h1 := num_lt n a
  have h2 := num_lt n b
  unfold num2 at h
  rcases Nat.lt_or_ge (num n g) (num n f) with h3 | h3
  · have h4 : (num n g + 1) * 257 ^ n ≤ num n f * 257 ^ n := Nat.mul_le_mul_right _ h3
    rw [Nat.succ_mul] at h4
    omega
  · exact h3
/-- the group at the head of a sorted list of keys -/
theorem group_of (N : Nat) (k : List UInt8) : ∀ (K : List (List UInt8)), (∀ x ∈ k :: K, x.length ≤ N) → (k :: K).Pairwise (fun a b => num N a ≤ num N b) → ∃ m R, k :: K = List.replicate (m + 1) k ++ R ∧ k ∉ R
  | [], _, _ => ⟨0, [], rfl, by simp⟩
  | x :: T, hl, hs => by
    by_cases hx : x = k
    · subst hx
      obtain ⟨m, R, h1, h2⟩ := group_of N x T (fun y hy => hl y (List.mem_cons_of_mem _ hy)) (List.pairwise_cons.1 hs).2
      exact ⟨m + 1, R, by rw [h1]; rfl, h2⟩
    · refine ⟨0, x :: T, rfl, fun hm => ?_⟩
      obtain ⟨h1, h2⟩ := List.pairwise_cons.1 hs
      have h3 := h1 x List.mem_cons_self
      have hk := hl k List.mem_cons_self
      have hxl := hl x (List.mem_cons_of_mem _ List.mem_cons_self)
      have h4 : num N k ≠ num N x := fun e => hx (num_inj N x k hxl hk e.symm)
      rcases List.mem_cons.1 hm with hm | hm
      · exact hx hm.symm
      · have h5 := (List.pairwise_cons.1 h2).1 k hm
        omega
end Go.Proofs.YtppnhdcnjbjibaaGreatDoor
