/- Times, the reference: the words of a text of five fields, and its ends. -/
import Derived.Test.YtlhaidibcocooaaGreatDoorTimesQ
import Derived.Test.YtlhaidibcocooaaGreatDoorTimesO
import Derived.Test.YtlhaidibcocooaaGreatDoorOnly
import Derived.Shelf.Strings.FieldsFuncGrows
namespace Go.Proofs.YtlhaidibcocooaaGreatDoor
open Go.RowKit Go.Shelf

def blankP (x : Nat) : Bool := x == 32 || x == 9
set_option maxHeartbeats 800000 in
theorem blank_fn (x : Nat) (W : World) (hx : x ≤ 1114111) : Calls Tryz.prog 57 #[.int .i32 (x : Int)] W fun e w' => e = .returned (.bool (blankP x)) ∧ w' = W := by
  by_cases h1 : x = 32
  · subst h1
    go_enter Tryz.func57, Tryz.ntmps57
    go_wp2_with fail
    go_ret
    exact ⟨rfl, rfl⟩
  · have a1 : ((x : Int) == 32) = false := by rw [beq_eq_false_iff_ne]; omega
    by_cases h2 : x = 9
    · subst h2
      go_enter Tryz.func57, Tryz.ntmps57
      go_wp2_with fail
      go_ret
      exact ⟨rfl, rfl⟩
    · have a2 : ((x : Int) == 9) = false := by rw [beq_eq_false_iff_ne]; omega
      have hb : blankP x = false := by unfold blankP; simp [h1, h2]
      rw [hb]
      clear hb h1 h2
      go_enter Tryz.func57, Tryz.ntmps57
      go_wp2_with fail
      go_ret
      exact ⟨rfl, rfl⟩
theorem blank_pred (w : World) : PredGrows Tryz.prog 57 #[] blankP w := fun W x hx _ =>
  (blank_fn x W hx).mono fun _ _ ⟨he, hw⟩ => ⟨he, hw ▸ Below.refl _ _⟩
set_option maxHeartbeats 800000 in
theorem blanks_any (s : ByteArray) (w : World) (hs : s.size ≤ 4294967296) : Calls Tryz.prog 26 #[.string s] w fun e w' => ∃ A, e = .returned (.slice (some ⟨A, 0, none⟩) (Lib.goFieldsP blankP s).length (Lib.goFieldsP blankP s).length) ∧ w.heap.size ≤ A ∧
      w'.ownsRow w.heap.size 9 1 (.slice (some ⟨A, 0, none⟩) (Lib.goFieldsP blankP s).length (Lib.goFieldsP blankP s).length) (Lib.goFieldsP blankP s).length ((Lib.goFieldsP blankP s).map Value.string) ∧ Below w.heap.size w w' := by
  have H := Lib.hid (Tryz.strings_FieldsFunc_grows 57 #[] (fun args w => by kernel_rfl) blankP s w hs (blank_pred w))
  generalize (Lib.goFieldsP blankP s).length = n at *
  generalize (Lib.goFieldsP blankP s).map Value.string = L at *
  go_enter Tryz.func26, Tryz.ntmps26
  go_wp2_with fail
  refine H.out.mono ?_
  rintro e w2 ⟨A, rfl, hA, ho, hb⟩
  have HA := Lib.hid hA
  have HO := Lib.hid ho
  have HB := Lib.hid hb
  clear hA ho hb
  go_wp2_with fail
  go_ret
  exact ⟨A, rfl, HA.out, HO.out, HB.out⟩

/-- a text of five fields -/
def five (P : Nat → List UInt8) : List UInt8 := Lib.join [P 0, P 1, P 2, P 3, P 4] [32]
def okField (x : List UInt8) : Prop := x ≠ [] ∧ ∀ b ∈ x, b.toNat < 128 ∧ blankP b.toNat = false
theorem five_text (P : Nat → List UInt8) : five P = P 0 ++ 32 :: (P 1 ++ 32 :: (P 2 ++ 32 :: (P 3 ++ 32 :: P 4))) := by
  unfold five
  rw [join_two, join_two, join_two, join_two, Lib.join_one]
theorem five_fields (P : Nat → List UInt8) (h : ∀ k, k < 5 → okField (P k)) : Lib.goFieldsP blankP (toB (five P)) = [toB (P 0), toB (P 1), toB (P 2), toB (P 3), toB (P 4)] := by
  refine fields_join 32 (by decide) (by decide) [P 0, P 1, P 2, P 3, P 4] (by simp) (fun x hx => ?_)
  simp at hx
  rcases hx with rfl | rfl | rfl | rfl | rfl
  all_goals exact h _ (by decide)
theorem not_blank {b : UInt8} (h : blankP b.toNat = false) : ([32, 9] : List UInt8).contains b = false := by
  unfold blankP at h
  simp at h ⊢
  refine ⟨fun e => h.1 (by rw [e]; rfl), fun e => h.2 (by rw [e]; rfl)⟩
theorem five_trim (P : Nat → List UInt8) (h : ∀ k, k < 5 → okField (P k)) : Lib.trimS (five P) [32, 9] = five P := by
  obtain ⟨Q, hQ⟩ : ∃ Q, five P = Q ++ P 4 := ⟨P 0 ++ 32 :: (P 1 ++ 32 :: (P 2 ++ 32 :: (P 3 ++ [32]))), by rw [five_text]; simp⟩
  have h4 := h 4 (by decide)
  have h0 := h 0 (by decide)
  have hl : 0 < (P 4).length := List.length_pos_iff.2 h4.1
  have hr : Lib.trimRightS (five P) [32, 9] = five P := by
    rw [Lib.trimRightS_take (five P) [32, 9] (five P).length (Nat.le_refl _) (fun j b hj hb => by rw [List.getElem?_eq_none hj] at hb; cases hb) (fun b _ hb => ?_), List.take_length]
    rw [hQ, List.length_append, List.getElem?_append_right (by omega)] at hb
    exact not_blank (h4.2 b (List.mem_of_getElem? hb)).2
  unfold Lib.trimS
  rw [hr, Lib.trimLeftS_drop (five P) [32, 9] 0 (Nat.zero_le _) (fun j b hj _ => absurd hj (Nat.not_lt_zero _)) (fun b hb => ?_), List.drop_zero]
  rw [five_text, List.getElem?_append_left (List.length_pos_iff.2 h0.1)] at hb
  exact not_blank (h0.2 b (List.mem_of_getElem? hb)).2
set_option maxRecDepth 100000 in
theorem trim_five (P : Nat → List UInt8) (h : ∀ k, k < 5 → okField (P k)) (hs : (five P).length ≤ 4096) (w : World) : Calls Tryz.prog 27 #[.string (toB (five P)), .string ⟨#[32, 9]⟩] w fun e w' => e = .returned (.string (toB (five P))) ∧ Below w.heap.size w w' := by
  have hz := toB_size (five P)
  have hp : 0 < (five P).length := by
    rw [five_text]
    simp
    omega
  refine (Any.strings_Trim_set Tryz.lays160 (fun w => by kernel_rfl) (by kernel_rfl) (toB (five P)) ⟨#[32, 9]⟩ w (by decide) (by omega) (by omega) (by decide) ?_).mono ?_
  · intro j b hb
    have hall : ∀ b ∈ ([32, 9] : List UInt8), b.toNat < 128 := by decide
    exact hall b (List.mem_of_getElem? hb)
  · rintro e w' ⟨rfl, q, rfl⟩
    refine ⟨?_, below_two w _ _ q⟩
    have : Lib.trimS (toB (five P)).data.toList (⟨#[32, 9]⟩ : ByteArray).data.toList = five P := five_trim P h
    rw [this]
    rfl

end Go.Proofs.YtlhaidibcocooaaGreatDoor
