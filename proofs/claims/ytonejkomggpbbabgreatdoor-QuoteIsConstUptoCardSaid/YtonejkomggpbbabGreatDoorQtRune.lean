/- QuoteIsConst: strings.ContainsRune of the signs that want no quotes, for any rune. -/
import Derived.Test.YtonejkomggpbbabGreatDoorBase
import Derived.Test.YtonejkomggpbbabGreatDoorShelf
import Derived.Test.YtonejkomggpbbabGreatDoorQtLaw
import Derived.LoopN
import Derived.Laws.Runes
import Derived.Laws.RangeAny
import Derived.Lib.TrimU
import Derived.Lib.SpaceUEq
import Derived.Deep.QuietTactic
import Derived.BigQuiet
namespace Go.Proofs.YtonejkomggpbbabGreatDoor
open Go.RowKit

abbrev sgs : ByteArray := ⟨#[95, 45, 46, 47, 44, 58, 43, 37, 64, 94]⟩
theorem sgs_none (b : UInt8) (k : Nat) (h : 128 ≤ b.toNat) : Lib.indexByte ((signsQ.drop k)) b = -1 := by
  have h0 : ∀ l : List UInt8, (∀ x ∈ l, x.toNat < 128) → Lib.indexByte l b = -1 := by
    intro l
    induction l with
    | nil => intro _; rfl
    | cons x l ih =>
      intro hx
      have h1 := hx x (by simp)
      have h2 := ih fun y hy => hx y (by simp [hy])
      unfold Lib.indexByte
      rw [if_neg (by simp; rintro rfl; omega), if_pos (by simp [h2])]
  exact h0 _ fun x hx => by
    have h3 : ∀ y ∈ signsQ, y.toNat < 128 := by decide
    exact h3 x (List.mem_of_mem_drop hx)
set_option maxRecDepth 100000 in
set_option maxHeartbeats 1600000 in
theorem sgs_err (w : World) :
    Calls Tryz.prog 34 #[.string sgs, .int .i32 65533] w fun e w' => e = .returned (.int .i64 (-1)) ∧ Below w.heap.size w w' := by
  have n0 := fun ty => run_next_ascii (P := Tryz.prog) w sgs 0 ty (by decide) (by decide)
  have n1 := fun ty => run_next_ascii (P := Tryz.prog) w sgs 1 ty (by decide) (by decide)
  have n2 := fun ty => run_next_ascii (P := Tryz.prog) w sgs 2 ty (by decide) (by decide)
  have n3 := fun ty => run_next_ascii (P := Tryz.prog) w sgs 3 ty (by decide) (by decide)
  have n4 := fun ty => run_next_ascii (P := Tryz.prog) w sgs 4 ty (by decide) (by decide)
  have n5 := fun ty => run_next_ascii (P := Tryz.prog) w sgs 5 ty (by decide) (by decide)
  have n6 := fun ty => run_next_ascii (P := Tryz.prog) w sgs 6 ty (by decide) (by decide)
  have n7 := fun ty => run_next_ascii (P := Tryz.prog) w sgs 7 ty (by decide) (by decide)
  have n8 := fun ty => run_next_ascii (P := Tryz.prog) w sgs 8 ty (by decide) (by decide)
  have n9 := fun ty => run_next_ascii (P := Tryz.prog) w sgs 9 ty (by decide) (by decide)
  have nE := fun ty => run_next_end (P := Tryz.prog) w sgs 10 ty (by decide)
  simp only [sgs] at n0 n1 n2 n3 n4 n5 n6 n7 n8 n9 nE ⊢
  go_enter Tryz.func34, Tryz.ntmps34
  go_wp2_with fail
  refine wp_loop_rounds 11 ?_
  iterate 11 (rw [rounds_succ]; go_wp2_with fail)
  go_ret
  exact ⟨rfl, (Below.refl _ _).alloc (Nat.le_refl _) _⟩
theorem bytes_of {s : ByteArray} (h : 2 ≤ s.size) (h4 : s.size ≤ 4) : (∃ a b : UInt8, s = ⟨#[a, b]⟩) ∨ (∃ a b c : UInt8, s = ⟨#[a, b, c]⟩) ∨ ∃ a b c d : UInt8, s = ⟨#[a, b, c, d]⟩ := by
  obtain ⟨⟨l⟩⟩ := s
  have hs : (ByteArray.mk ⟨l⟩).size = l.length := rfl
  rw [hs] at h h4
  match l, h, h4 with
  | [a, b], _, _ => exact .inl ⟨a, b, rfl⟩
  | [a, b, c], _, _ => exact .inr (.inl ⟨a, b, c, rfl⟩)
  | [a, b, c, d], _, _ => exact .inr (.inr ⟨a, b, c, d, rfl⟩)
set_option maxRecDepth 100000 in
set_option maxHeartbeats 1600000 in
theorem sgs_two (r : Int) (h0 : 128 ≤ r) (hr1 : r ≤ 1114111) (hv2 : Lib.validRune r = true) (hneb : (r == 65533) = false) (a b : UInt8) (hrs : Utf8.encode r = ⟨#[a, b]⟩) (hb : 128 ≤ b.toNat) (w : World) :
    Calls Tryz.prog 34 #[.string sgs, .int .i32 r] w fun e w' => e = .returned (.int .i64 (-1)) ∧ Below w.heap.size w w' := by
  have hr2 : ¬ r < 128 := by omega
  have hb2 : ((45 : Int) != (b.toNat : Int)) = true := by rw [bne_iff_ne]; omega
  have hd : ((sgs[1].toNat : Int) != (((⟨#[a, b]⟩ : ByteArray)[1]'(by show 1 < 2; omega)).toNat : Int)) = true := hb2
  have hI : ¬ (0 : Int) ≤ Lib.indexByte [46, 47, 44, 58, 43, 37, 64, 94] ((⟨#[a, b]⟩ : ByteArray)[1]'(by show 1 < 2; omega)) := by
    have h := sgs_none b 2 hb
    have h2 : Lib.indexByte [46, 47, 44, 58, 43, 37, 64, 94] ((⟨#[a, b]⟩ : ByteArray)[1]'(by show 1 < 2; omega)) = -1 := h
    omega
  go_enter Tryz.func34, Tryz.ntmps34
  go_wp2_with (first | (go_at_call 53; refine (Tryz.utf8_ValidRune r _).mono ?_; rintro e w' ⟨rfl, hw⟩; rw [hw, hv2]))
  go_step3
  go_wp2_with fail
  refine wp_loop_rounds 3 ?_
  rw [rounds_succ]
  go_wp2_with fail
  go_step3
  go_wp2_with fail
  go_quiet (fail)
  go_wp2_with fail
  go_quiet ((go_at_call 7; exact quiet_same (Tryz.strings_IndexByte _ _ _)))
  go_wp2_with fail
  rw [Exit.noGoto_ret]
  go_wp2_with fail
  rw [Exit.noGoto_ret]
  go_ret
  exact ⟨rfl, below_drewN (Below.refl _ _) _⟩
set_option maxRecDepth 100000 in
set_option maxHeartbeats 1600000 in
theorem sgs_three (r : Int) (h0 : 128 ≤ r) (hr1 : r ≤ 1114111) (hv2 : Lib.validRune r = true) (hneb : (r == 65533) = false) (a b c : UInt8) (hrs : Utf8.encode r = ⟨#[a, b, c]⟩) (hb : 128 ≤ c.toNat) (w : World) :
    Calls Tryz.prog 34 #[.string sgs, .int .i32 r] w fun e w' => e = .returned (.int .i64 (-1)) ∧ Below w.heap.size w w' := by
  have hr2 : ¬ r < 128 := by omega
  have hb2 : ((46 : Int) != (c.toNat : Int)) = true := by rw [bne_iff_ne]; omega
  have hd : ((sgs[2].toNat : Int) != (((⟨#[a, b, c]⟩ : ByteArray)[2]'(by show 2 < 3; omega)).toNat : Int)) = true := hb2
  have hI : ¬ (0 : Int) ≤ Lib.indexByte [47, 44, 58, 43, 37, 64, 94] ((⟨#[a, b, c]⟩ : ByteArray)[2]'(by show 2 < 3; omega)) := by
    have h := sgs_none c 3 hb
    have h2 : Lib.indexByte [47, 44, 58, 43, 37, 64, 94] ((⟨#[a, b, c]⟩ : ByteArray)[2]'(by show 2 < 3; omega)) = -1 := h
    omega
  go_enter Tryz.func34, Tryz.ntmps34
  go_wp2_with (first | (go_at_call 53; refine (Tryz.utf8_ValidRune r _).mono ?_; rintro e w' ⟨rfl, hw⟩; rw [hw, hv2]))
  go_step3
  go_wp2_with fail
  refine wp_loop_rounds 3 ?_
  rw [rounds_succ]
  go_wp2_with fail
  go_step3
  go_wp2_with fail
  go_quiet (fail)
  go_wp2_with fail
  go_quiet ((go_at_call 7; exact quiet_same (Tryz.strings_IndexByte _ _ _)))
  go_wp2_with fail
  rw [Exit.noGoto_ret]
  go_wp2_with fail
  rw [Exit.noGoto_ret]
  go_ret
  exact ⟨rfl, below_drewN (Below.refl _ _) _⟩
set_option maxRecDepth 100000 in
set_option maxHeartbeats 1600000 in
theorem sgs_four (r : Int) (h0 : 128 ≤ r) (hr1 : r ≤ 1114111) (hv2 : Lib.validRune r = true) (hneb : (r == 65533) = false) (a b c d : UInt8) (hrs : Utf8.encode r = ⟨#[a, b, c, d]⟩) (hb : 128 ≤ d.toNat) (w : World) :
    Calls Tryz.prog 34 #[.string sgs, .int .i32 r] w fun e w' => e = .returned (.int .i64 (-1)) ∧ Below w.heap.size w w' := by
  have hr2 : ¬ r < 128 := by omega
  have hb2 : ((47 : Int) != (d.toNat : Int)) = true := by rw [bne_iff_ne]; omega
  have hd : ((sgs[3].toNat : Int) != (((⟨#[a, b, c, d]⟩ : ByteArray)[3]'(by show 3 < 4; omega)).toNat : Int)) = true := hb2
  have hI : ¬ (0 : Int) ≤ Lib.indexByte [44, 58, 43, 37, 64, 94] ((⟨#[a, b, c, d]⟩ : ByteArray)[3]'(by show 3 < 4; omega)) := by
    have h := sgs_none d 4 hb
    have h2 : Lib.indexByte [44, 58, 43, 37, 64, 94] ((⟨#[a, b, c, d]⟩ : ByteArray)[3]'(by show 3 < 4; omega)) = -1 := h
    omega
  go_enter Tryz.func34, Tryz.ntmps34
  go_wp2_with (first | (go_at_call 53; refine (Tryz.utf8_ValidRune r _).mono ?_; rintro e w' ⟨rfl, hw⟩; rw [hw, hv2]))
  go_step3
  go_wp2_with fail
  refine wp_loop_rounds 3 ?_
  rw [rounds_succ]
  go_wp2_with fail
  go_step3
  go_wp2_with fail
  go_quiet (fail)
  go_wp2_with fail
  go_quiet ((go_at_call 7; exact quiet_same (Tryz.strings_IndexByte _ _ _)))
  go_wp2_with fail
  rw [Exit.noGoto_ret]
  go_wp2_with fail
  rw [Exit.noGoto_ret]
  go_ret
  exact ⟨rfl, below_drewN (Below.refl _ _) _⟩

theorem sgs_high (r : Int) (h0 : 128 ≤ r) (hv : Utf8.valid r = true) (w : World) :
    Calls Tryz.prog 34 #[.string sgs, .int .i32 r] w fun e w' => e = .returned (.int .i64 (-1)) ∧ Below w.heap.size w w' := by
  have hr1 : r ≤ 1114111 := by simp [Utf8.valid] at hv; omega
  have hv2 : Lib.validRune r = true := by simp [Utf8.valid] at hv; simp [Lib.validRune]; omega
  obtain ⟨e1, e2, e3⟩ := encode_facts r hv h0
  by_cases hne : r = 65533
  · subst hne; exact sgs_err w
  have hneb : (r == 65533) = false := by simpa using hne
  generalize hrs : Utf8.encode r = rs at *
  rcases bytes_of (by omega) e2 with ⟨a, b, rfl⟩ | ⟨a, b, c, rfl⟩ | ⟨a, b, c, d, rfl⟩
  · exact sgs_two r h0 hr1 hv2 hneb a b hrs (e3 (by show 2 - 1 < 2; omega)) w
  · exact sgs_three r h0 hr1 hv2 hneb a b c hrs (e3 (by show 3 - 1 < 3; omega)) w
  · exact sgs_four r h0 hr1 hv2 hneb a b c d hrs (e3 (by show 4 - 1 < 4; omega)) w
set_option maxRecDepth 100000 in
set_option maxHeartbeats 1600000 in
theorem sgs_bad (r : Int) (h0 : 128 ≤ r) (hr1 : r ≤ 1114111) (hv2 : Lib.validRune r = false) (w : World) :
    Calls Tryz.prog 34 #[.string sgs, .int .i32 r] w fun e w' => e = .returned (.int .i64 (-1)) ∧ Below w.heap.size w w' := by
  have hr2 : ¬ r < 128 := by omega
  have hneb : (r == 65533) = false := by
    rw [beq_eq_false_iff_ne]
    rintro rfl
    exact absurd hv2 (by decide)
  go_enter Tryz.func34, Tryz.ntmps34
  go_wp2_with (first | (go_at_call 53; refine (Tryz.utf8_ValidRune r _).mono ?_; rintro e w' ⟨rfl, hw⟩; rw [hw, hv2]))
  go_ret
  exact ⟨rfl, Below.refl _ _⟩
theorem sgs_any (r : Int) (h0 : 128 ≤ r) (hr1 : r ≤ 1114111) (w : World) :
    Calls Tryz.prog 34 #[.string sgs, .int .i32 r] w fun e w' => e = .returned (.int .i64 (-1)) ∧ Below w.heap.size w w' := by
  cases hv : Lib.validRune r with
  | true => exact sgs_high r h0 (by simp [Lib.validRune] at hv; simp [Utf8.valid]; omega) w
  | false => exact sgs_bad r h0 hr1 hv w
end Go.Proofs.YtonejkomggpbbabGreatDoor
