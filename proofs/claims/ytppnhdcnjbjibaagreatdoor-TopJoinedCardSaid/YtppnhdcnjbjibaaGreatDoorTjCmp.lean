/- TopJoined: cmp.Compare of texts; blank. -/
import Derived.Test.YtppnhdcnjbjibaaGreatDoorBase
import Derived.Test.YtppnhdcnjbjibaaGreatDoorTjOrd
import Derived.Test.YtppnhdcnjbjibaaGreatDoorGsMem
namespace Go.Proofs.YtppnhdcnjbjibaaGreatDoor
open Go.RowKit

theorem less_asymm : ∀ (a b : List UInt8), Op.bytesLess a b = true → Op.bytesLess b a = false ∧ (a == b) = false := fun a b h => by
  have h1 := (num_less (a.length + b.length) a b (by omega) (by omega)).2 h
  refine ⟨?_, ?_⟩
  · cases h2 : Op.bytesLess b a with
    | false => rfl
    | true =>
      have h3 := (num_less (a.length + b.length) b a (by omega) (by omega)).2 h2
      omega
  · rw [beq_eq_false_iff_ne]
    rintro rfl
    omega
theorem less_tri (a b : List UInt8) (h1 : Op.bytesLess a b = false) (h2 : Op.bytesLess b a = false) : (a == b) = true := by
  rw [beq_iff_eq]
  refine num_inj (a.length + b.length) a b (by omega) (by omega) ?_
  have e1 : ¬ num (a.length + b.length) a < num (a.length + b.length) b := fun h => by rw [(num_less _ a b (by omega) (by omega)).1 h] at h1; cases h1
  have e2 : ¬ num (a.length + b.length) b < num (a.length + b.length) a := fun h => by rw [(num_less _ b a (by omega) (by omega)).1 h] at h2; cases h2
  omega
set_option maxHeartbeats 1600000 in
theorem isNaN_any (a : ByteArray) (w : World) : Calls Tryz.prog 88 #[.string a] w fun e w' => e = .returned (.bool false) ∧ w' = w := by
  have h1 : (a.toList == a.toList) = true := beq_self_eq_true _
  go_enter Tryz.func88, Tryz.ntmps88
  go_wp2_with fail
  go_ret
  exact ⟨rfl, rfl⟩
set_option maxHeartbeats 1600000 in
theorem compare_any (a b : ByteArray) (w : World) : Calls Tryz.prog 54 #[.string a, .string b] w fun e w' => e = .returned (.int .i64 (cmpS (bl a) (bl b))) ∧ w' = w := by
  have HN := Lib.hid isNaN_any
  have ea : a.toList = bl a := ByteArray.toList_eq a
  have eb : b.toList = bl b := ByteArray.toList_eq b
  unfold cmpS
  rw [← ea, ← eb]
  have HT := Lib.hid (And.intro (less_asymm a.toList b.toList) (And.intro (less_asymm b.toList a.toList) (less_tri a.toList b.toList)))
  clear ea eb
  cases h1 : Op.bytesLess a.toList b.toList with
  | true =>
    obtain ⟨h2, h3⟩ := HT.out.1 h1
    rw [if_pos rfl]
    go_enter Tryz.func54, Tryz.ntmps54
    go_wp2_with (go_at_call 88; refine (HN.out _ _).mono ?_; rintro e w1 ⟨rfl, rfl⟩)
    go_ret
    exact ⟨rfl, rfl⟩
  | false =>
    rw [if_neg (by decide)]
    cases h2 : Op.bytesLess b.toList a.toList with
    | true =>
      have h3 : (a.toList == b.toList) = false := by
        have := (HT.out.2.1 h2).2
        rw [beq_eq_false_iff_ne] at this ⊢
        exact fun e => this e.symm
      rw [if_pos rfl]
      go_enter Tryz.func54, Tryz.ntmps54
      go_wp2_with (go_at_call 88; refine (HN.out _ _).mono ?_; rintro e w1 ⟨rfl, rfl⟩)
      go_ret
      exact ⟨rfl, rfl⟩
    | false =>
      have h3 := HT.out.2.2 h1 h2
      rw [if_neg (by decide)]
      go_enter Tryz.func54, Tryz.ntmps54
      go_wp2_with (go_at_call 88; refine (HN.out _ _).mono ?_; rintro e w1 ⟨rfl, rfl⟩)
      go_ret
      exact ⟨rfl, rfl⟩
end Go.Proofs.YtppnhdcnjbjibaaGreatDoor
