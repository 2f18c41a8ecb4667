/- strings.IndexRune of a rune beyond ASCII in the text of the two bytes 0 and 47: it is not there. -/
import Derived.Test.YtclhdppepopgeaaGreatDoorBase
import Derived.Test.YtclhdppepopgeaaGreatDoorShelf
import Derived.LoopN
import Derived.Laws.Runes
import Derived.Laws.RangeAny
import Derived.Lib.TrimU
import Derived.Lib.SpaceUEq
import Derived.Deep.QuietTactic
import Derived.BigQuiet
namespace Go.Proofs.YtclhdppepopgeaaGreatDoor
open Go.RowKit

/-- the text of the two bytes 0 and 47 -/
abbrev zn : ByteArray := ⟨#[0, 47]⟩

set_option maxRecDepth 100000 in
set_option maxHeartbeats 1600000 in
theorem indexRune_err (w : World) :
    Calls Tryz.prog 102 #[.string zn, .int .i32 65533] w fun e w' => e = .returned (.int .i64 (-1)) ∧ Below w.heap.size w w' := by
  have n0 := fun ty => run_next_ascii (P := Tryz.prog) w zn 0 ty (by decide) (by decide)
  have n1 := fun ty => run_next_ascii (P := Tryz.prog) w zn 1 ty (by decide) (by decide)
  have n2 := fun ty => run_next_end (P := Tryz.prog) w zn 2 ty (by decide)
  simp only [zn] at n0 n1 n2 ⊢
  go_enter Tryz.func102, Tryz.ntmps102
  go_wp2_with fail
  refine wp_loop_rounds 3 ?_
  rw [rounds_succ]
  go_wp2_with fail
  rw [rounds_succ]
  go_wp2_with fail
  rw [rounds_succ]
  go_wp2_with fail
  go_ret
  exact ⟨rfl, (Below.refl _ _).alloc (Nat.le_refl _) _⟩

theorem two_bytes (s : ByteArray) (h : s.size = 2) : ∃ a b : UInt8, s = ⟨#[a, b]⟩ := by
  obtain ⟨⟨l⟩⟩ := s
  match l, h with
  | [a, b], _ => exact ⟨a, b, rfl⟩

theorem last_two (s : ByteArray) (a b : UInt8) (h : s = ⟨#[a, b]⟩) (hl : s.size - 1 < s.size) : s[s.size - 1] = b := by subst h; rfl

set_option maxRecDepth 100000 in
set_option maxHeartbeats 1600000 in
theorem indexRune_two (r : Int) (h0 : 128 ≤ r) (hr1 : r ≤ 1114111) (hv2 : Lib.validRune r = true) (hneb : (r == 65533) = false) (a b : UInt8) (hrs : Utf8.encode r = ⟨#[a, b]⟩) (hb : 128 ≤ b.toNat) (w : World) :
    Calls Tryz.prog 102 #[.string zn, .int .i32 r] w fun e w' => e = .returned (.int .i64 (-1)) ∧ Below w.heap.size w w' := by
  have hr2 : ¬ r < 128 := by omega
  have hb1 : ((47 : Int) == (b.toNat : Int)) = false := by rw [beq_eq_false_iff_ne]; omega
  have hb2 : ((47 : Int) != (b.toNat : Int)) = true := by rw [bne_iff_ne]; omega
  have hd : ((zn[1].toNat : Int) != (((⟨#[a, b]⟩ : ByteArray)[1]'(by show 1 < 2; omega)).toNat : Int)) = true := hb2
  go_enter Tryz.func102, Tryz.ntmps102
  go_wp2_with (first | (go_at_call 119; refine (Tryz.utf8_ValidRune r _).mono ?_; rintro e w' ⟨rfl, hw⟩; rw [hw, hv2]))
  go_step3
  go_wp2_with fail
  refine wp_loop_rounds 3 ?_
  rw [rounds_succ]
  go_wp2_with fail
  go_step3
  go_wp2_with fail
  go_quiet (fail)
  go_wp2_with fail
  go_quiet ((go_at_call 14; exact quiet_same (Tryz.strings_IndexByte _ _ _)))
  go_wp2_with fail
  rw [Exit.noGoto_ret]
  go_wp2_with fail
  rw [Exit.noGoto_ret]
  go_ret
  exact ⟨rfl, below_drewN (Below.refl _ _) _⟩

set_option maxRecDepth 100000 in
set_option maxHeartbeats 1600000 in
theorem indexRune_more (r : Int) (h0 : 128 ≤ r) (hr1 : r ≤ 1114111) (hv2 : Lib.validRune r = true) (hneb : (r == 65533) = false) (rs : ByteArray) (hrs : Utf8.encode r = rs) (h3 : 3 ≤ rs.size) (h4 : rs.size ≤ 4) (w : World) :
    Calls Tryz.prog 102 #[.string zn, .int .i32 r] w fun e w' => e = .returned (.int .i64 (-1)) ∧ Below w.heap.size w w' := by
  have hr2 : ¬ r < 128 := by omega
  go_enter Tryz.func102, Tryz.ntmps102
  go_wp2_with (first | (go_at_call 119; refine (Tryz.utf8_ValidRune r _).mono ?_; rintro e w' ⟨rfl, hw⟩; rw [hw, hv2]))
  go_step3
  go_wp2_with fail
  refine wp_loop_rounds 3 ?_
  rw [rounds_succ]
  go_wp2_with fail
  rw [Exit.noGoto_ret]
  go_ret
  exact ⟨rfl, Below.refl _ _⟩

theorem indexRune_high (r : Int) (h0 : 128 ≤ r) (hv : Utf8.valid r = true) (w : World) :
    Calls Tryz.prog 102 #[.string zn, .int .i32 r] w fun e w' => e = .returned (.int .i64 (-1)) ∧ Below w.heap.size w w' := by
  have hr1 : r ≤ 1114111 := by simp [Utf8.valid] at hv; omega
  have hv2 : Lib.validRune r = true := by simp [Utf8.valid] at hv; simp [Lib.validRune]; omega
  obtain ⟨e1, e2, e3⟩ := encode_facts r hv h0
  by_cases hne : r = 65533
  · subst hne; exact indexRune_err w
  have hneb : (r == 65533) = false := by simpa using hne
  by_cases h2 : (Utf8.encode r).size = 2
  · obtain ⟨a, b, hab⟩ := two_bytes _ h2
    refine indexRune_two r h0 hr1 hv2 hneb a b hab ?_ w
    have := e3 (by omega)
    rwa [last_two _ _ _ hab] at this
  · exact indexRune_more r h0 hr1 hv2 hneb _ rfl (by omega) e2 w

end Go.Proofs.YtclhdppepopgeaaGreatDoor
