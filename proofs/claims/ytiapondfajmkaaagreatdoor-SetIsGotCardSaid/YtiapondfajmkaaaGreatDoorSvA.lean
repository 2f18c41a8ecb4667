/- Shell variables: names; is there a byte 0 in a text of a list. -/
import Derived.Test.YtiapondfajmkaaaGreatDoorSvMem
import Derived.LoopN
import Derived.IntWalk
import Derived.BigQuiet
import Derived.StillTailTactics
import Derived.Deep.RegionLaw
import Derived.Deep.DeepCutAuto
namespace Go.Proofs.YtiapondfajmkaaaGreatDoor
open Go.RowKit

/-- a letter, or an underscore -/
def letU (c : UInt8) : Prop := (97 ≤ c.toNat ∧ c.toNat ≤ 122) ∨ (65 ≤ c.toNat ∧ c.toNat ≤ 90) ∨ c.toNat = 95
def digU (c : UInt8) : Prop := 48 ≤ c.toNat ∧ c.toNat ≤ 57
/-- a name -/
def nameOK (s : ByteArray) : Prop := 0 < s.size ∧ s.size ≤ 64 ∧ ∀ i (h : i < s.size), letU s[i] ∨ (i ≠ 0 ∧ digU s[i])
theorem empty_of {s : ByteArray} (h : s.size = 0) : s.toList.isEmpty = true := by
  have : s.toList.length = 0 := by rw [ByteArray.toList_eq]; simpa using h
  rw [List.length_eq_zero_iff.1 this]
  rfl
theorem full_of {s : ByteArray} (h : 0 < s.size) : s.toList.isEmpty = false := by
  have : s.toList.length ≠ 0 := by
    have h1 : s.toList.length = s.size := by rw [ByteArray.toList_eq]; simp
    omega
  cases hl : s.toList with
  | nil => rw [hl] at this; simp at this
  | cons _ _ => rfl
def NameP (s : ByteArray) (w : World) (e : Ending) (w' : World) : Prop := ∃ f : Bool, e = .returned (.bool f) ∧ (f = true ↔ nameOK s) ∧ w' = w
set_option maxRecDepth 100000 in
set_option maxHeartbeats 3200000 in
theorem isName_any (s : ByteArray) (w : World) : Calls Tryz.prog 32 #[.string s] w (NameP s w) := by
  obtain ⟨Q, hQ⟩ : ∃ Q, NameP s w = Q := ⟨_, rfl⟩
  rw [hQ]
  have HQ := Lib.hid hQ
  clear hQ
  rcases Nat.eq_zero_or_pos s.size with h0 | h0
  · have he := empty_of h0
    have HF := Lib.hid (show NameP s w (.returned (.bool false)) w from ⟨false, rfl, ⟨(fun h => by cases h), (fun h => by have := h.1; omega)⟩, rfl⟩)
    clear h0
    go_enter Tryz.func32, Tryz.ntmps32
    go_wp2_with fail
    rw [← HQ.out]
    exact HF.out
  have he := full_of h0
  by_cases hl : s.size ≤ 64
  case neg =>
    have hl2 : (s.size : Int) > 64 := by omega
    have HF := Lib.hid (show NameP s w (.returned (.bool false)) w from ⟨false, rfl, ⟨(fun h => by cases h), (fun h => absurd h.2.1 hl)⟩, rfl⟩)
    clear h0 hl
    go_enter Tryz.func32, Tryz.ntmps32
    go_wp2_with fail
    rw [← HQ.out]
    exact HF.out
  have hl2 : ¬ (s.size : Int) > 64 := by omega
  have H0 := Lib.hid (And.intro h0 hl)
  clear h0
  go_enter Tryz.func32, Tryz.ntmps32
  go_wp2_with fail
  go_loopw [15] (fun s15 wr => ∃ i : Nat, s15 = .int .i64 (i : Int) ∧ Hid (i ≤ s.size) ∧ Hid (∀ j (h : j < s.size), j < i → letU s[j] ∨ (j ≠ 0 ∧ digU s[j])) ∧ wr = w) (fun s15 _ => s.size - (intOf s15).toNat)
  case atStart => exact ⟨0, rfl, Lib.hid (Nat.zero_le _), Lib.hid (fun _ _ h => absurd h (Nat.not_lt_zero _)), rfl⟩
  case round =>
    obtain ⟨i, rfl, HI, HA, rfl⟩ := hrel
    by_cases hlt : i < s.size
    · have hltz : (i : Int) < (s.size : Int) := by omega
      have hc := UInt8.toNat_lt s[i]
      obtain ⟨c, hcd⟩ : ∃ c, c = s[i] := ⟨_, rfl⟩
      have HNext := Lib.hid (fun (hg : letU c ∨ (i ≠ 0 ∧ digU c)) j (h : j < s.size) (hj : j < i + 1) => (show letU s[j] ∨ (j ≠ 0 ∧ digU s[j]) by
        by_cases e : j = i
        · subst e; rw [← hcd]; exact hg
        · exact HA.out j h (by omega)))
      have HBad := Lib.hid (fun (hb : ¬ (letU c ∨ (i ≠ 0 ∧ digU c))) => (show NameP s wr (.returned (.bool false)) wr from ⟨false, rfl, ⟨(fun h => by cases h), (fun h => absurd (by rw [hcd]; exact h.2.2 i hlt) hb)⟩, rfl⟩))
      obtain ⟨x, hx⟩ : ∃ x : Nat, x = c.toNat := ⟨_, rfl⟩
      have hxs : s[i].toNat = x := by rw [hx, hcd]
      have HX := Lib.hid hx
      clear hcd hc hx
      have hcase : (97 ≤ x ∧ x ≤ 122) ∨ (65 ≤ x ∧ x ≤ 90) ∨ x = 95 ∨ ((48 ≤ x ∧ x ≤ 57) ∧ i ≠ 0) ∨ ((48 ≤ x ∧ x ≤ 57) ∧ i = 0) ∨ x < 48 ∨ (57 < x ∧ x < 65) ∨ (90 < x ∧ x < 95) ∨ x = 96 ∨ 122 < x := by omega
      have hyes : ∀ _ : letU c ∨ (i ≠ 0 ∧ digU c), (Hid (∀ j (h : j < s.size), j < i + 1 → letU s[j] ∨ (j ≠ 0 ∧ digU s[j]))) := fun h => Lib.hid (HNext.out h)
      have hno : ∀ _ : ¬ (letU c ∨ (i ≠ 0 ∧ digU c)), Hid (NameP s wr (.returned (.bool false)) wr) := fun h => Lib.hid (HBad.out h)
      unfold letU digU at hyes hno
      rw [← HX.out] at hyes hno
      clear HNext HBad HX
      rcases hcase with h | h | h | ⟨h, hi⟩ | ⟨h, hi⟩ | h | h | h | h | h
      · have HN := hyes (.inl (.inl h))
        have fa : 97 ≤ x := by omega
        have za : (97 : Int) ≤ (x : Int) := by omega
        have fb : x ≤ 122 := by omega
        have zb : (x : Int) ≤ 122 := by omega
        have fc : 65 ≤ x := by omega
        have zc : (65 : Int) ≤ (x : Int) := by omega
        have fd : ¬ x ≤ 90 := by omega
        have zd : ¬ (x : Int) ≤ 90 := by omega
        have fe : ¬ x = 95 := by omega
        have ze : ¬ (x : Int) = 95 := by omega
        have ye : ((x : Int) == 95) = false := by exact beq_eq_false_iff_ne.2 ze
        have ff : ¬ x < 48 := by omega
        have zf : ¬ (x : Int) < 48 := by omega
        have fg : 57 < x := by omega
        have zg : (57 : Int) < (x : Int) := by omega
        clear hyes hno
        go_wp2_with fail
        all_goals first
          | (exfalso; omega)
          | (exact ⟨⟨i + 1, by go_num, Lib.hid hlt, HN, trivial⟩, by simp [intOf]; omega⟩)
      · have HN := hyes (.inl (.inr (.inl h)))
        have fa : ¬ 97 ≤ x := by omega
        have za : ¬ (97 : Int) ≤ (x : Int) := by omega
        have fb : x ≤ 122 := by omega
        have zb : (x : Int) ≤ 122 := by omega
        have fc : 65 ≤ x := by omega
        have zc : (65 : Int) ≤ (x : Int) := by omega
        have fd : x ≤ 90 := by omega
        have zd : (x : Int) ≤ 90 := by omega
        have fe : ¬ x = 95 := by omega
        have ze : ¬ (x : Int) = 95 := by omega
        have ye : ((x : Int) == 95) = false := by exact beq_eq_false_iff_ne.2 ze
        have ff : ¬ x < 48 := by omega
        have zf : ¬ (x : Int) < 48 := by omega
        have fg : 57 < x := by omega
        have zg : (57 : Int) < (x : Int) := by omega
        clear hyes hno
        go_wp2_with fail
        all_goals first
          | (exfalso; omega)
          | (exact ⟨⟨i + 1, by go_num, Lib.hid hlt, HN, trivial⟩, by simp [intOf]; omega⟩)
      · have HN := hyes (.inl (.inr (.inr h)))
        have fa : ¬ 97 ≤ x := by omega
        have za : ¬ (97 : Int) ≤ (x : Int) := by omega
        have fb : x ≤ 122 := by omega
        have zb : (x : Int) ≤ 122 := by omega
        have fc : 65 ≤ x := by omega
        have zc : (65 : Int) ≤ (x : Int) := by omega
        have fd : ¬ x ≤ 90 := by omega
        have zd : ¬ (x : Int) ≤ 90 := by omega
        have fe : x = 95 := by omega
        have ze : (x : Int) = 95 := by omega
        have ye : ((x : Int) == 95) = true := by rw [ze]; rfl
        have ff : ¬ x < 48 := by omega
        have zf : ¬ (x : Int) < 48 := by omega
        have fg : 57 < x := by omega
        have zg : (57 : Int) < (x : Int) := by omega
        clear hyes hno
        go_wp2_with fail
        all_goals first
          | (exfalso; omega)
          | (exact ⟨⟨i + 1, by go_num, Lib.hid hlt, HN, trivial⟩, by simp [intOf]; omega⟩)
      · have HN := hyes (.inr ⟨hi, h⟩)
        have hiz : ¬ (i : Int) = 0 := by omega
        have hib : ((i : Int) == 0) = false := beq_eq_false_iff_ne.2 hiz
        have fa : ¬ 97 ≤ x := by omega
        have za : ¬ (97 : Int) ≤ (x : Int) := by omega
        have fb : x ≤ 122 := by omega
        have zb : (x : Int) ≤ 122 := by omega
        have fc : ¬ 65 ≤ x := by omega
        have zc : ¬ (65 : Int) ≤ (x : Int) := by omega
        have fd : x ≤ 90 := by omega
        have zd : (x : Int) ≤ 90 := by omega
        have fe : ¬ x = 95 := by omega
        have ze : ¬ (x : Int) = 95 := by omega
        have ye : ((x : Int) == 95) = false := by exact beq_eq_false_iff_ne.2 ze
        have ff : ¬ x < 48 := by omega
        have zf : ¬ (x : Int) < 48 := by omega
        have fg : ¬ 57 < x := by omega
        have zg : ¬ (57 : Int) < (x : Int) := by omega
        clear hyes hno
        go_wp2_with fail
        all_goals first
          | (exfalso; omega)
          | (exact ⟨⟨i + 1, by go_num, Lib.hid hlt, HN, trivial⟩, by simp [intOf]; omega⟩)
      · have HN := hno (by omega)
        subst hi
        have fa : ¬ 97 ≤ x := by omega
        have za : ¬ (97 : Int) ≤ (x : Int) := by omega
        have fb : x ≤ 122 := by omega
        have zb : (x : Int) ≤ 122 := by omega
        have fc : ¬ 65 ≤ x := by omega
        have zc : ¬ (65 : Int) ≤ (x : Int) := by omega
        have fd : x ≤ 90 := by omega
        have zd : (x : Int) ≤ 90 := by omega
        have fe : ¬ x = 95 := by omega
        have ze : ¬ (x : Int) = 95 := by omega
        have ye : ((x : Int) == 95) = false := by exact beq_eq_false_iff_ne.2 ze
        have ff : ¬ x < 48 := by omega
        have zf : ¬ (x : Int) < 48 := by omega
        have fg : ¬ 57 < x := by omega
        have zg : ¬ (57 : Int) < (x : Int) := by omega
        clear hyes hno
        go_wp2_with fail
        all_goals first
          | (exfalso; omega)
          | (rw [← HQ.out]; exact HN.out)
      · have HN := hno (by omega)
        have fa : ¬ 97 ≤ x := by omega
        have za : ¬ (97 : Int) ≤ (x : Int) := by omega
        have fb : x ≤ 122 := by omega
        have zb : (x : Int) ≤ 122 := by omega
        have fc : ¬ 65 ≤ x := by omega
        have zc : ¬ (65 : Int) ≤ (x : Int) := by omega
        have fd : x ≤ 90 := by omega
        have zd : (x : Int) ≤ 90 := by omega
        have fe : ¬ x = 95 := by omega
        have ze : ¬ (x : Int) = 95 := by omega
        have ye : ((x : Int) == 95) = false := by exact beq_eq_false_iff_ne.2 ze
        have ff : x < 48 := by omega
        have zf : (x : Int) < 48 := by omega
        have fg : ¬ 57 < x := by omega
        have zg : ¬ (57 : Int) < (x : Int) := by omega
        clear hyes hno
        go_wp2_with fail
        all_goals first
          | (exfalso; omega)
          | (rw [← HQ.out]; exact HN.out)
      · have HN := hno (by omega)
        have fa : ¬ 97 ≤ x := by omega
        have za : ¬ (97 : Int) ≤ (x : Int) := by omega
        have fb : x ≤ 122 := by omega
        have zb : (x : Int) ≤ 122 := by omega
        have fc : ¬ 65 ≤ x := by omega
        have zc : ¬ (65 : Int) ≤ (x : Int) := by omega
        have fd : x ≤ 90 := by omega
        have zd : (x : Int) ≤ 90 := by omega
        have fe : ¬ x = 95 := by omega
        have ze : ¬ (x : Int) = 95 := by omega
        have ye : ((x : Int) == 95) = false := by exact beq_eq_false_iff_ne.2 ze
        have ff : ¬ x < 48 := by omega
        have zf : ¬ (x : Int) < 48 := by omega
        have fg : 57 < x := by omega
        have zg : (57 : Int) < (x : Int) := by omega
        clear hyes hno
        go_wp2_with fail
        all_goals first
          | (exfalso; omega)
          | (rw [← HQ.out]; exact HN.out)
      · have HN := hno (by omega)
        have fa : ¬ 97 ≤ x := by omega
        have za : ¬ (97 : Int) ≤ (x : Int) := by omega
        have fb : x ≤ 122 := by omega
        have zb : (x : Int) ≤ 122 := by omega
        have fc : 65 ≤ x := by omega
        have zc : (65 : Int) ≤ (x : Int) := by omega
        have fd : ¬ x ≤ 90 := by omega
        have zd : ¬ (x : Int) ≤ 90 := by omega
        have fe : ¬ x = 95 := by omega
        have ze : ¬ (x : Int) = 95 := by omega
        have ye : ((x : Int) == 95) = false := by exact beq_eq_false_iff_ne.2 ze
        have ff : ¬ x < 48 := by omega
        have zf : ¬ (x : Int) < 48 := by omega
        have fg : 57 < x := by omega
        have zg : (57 : Int) < (x : Int) := by omega
        clear hyes hno
        go_wp2_with fail
        all_goals first
          | (exfalso; omega)
          | (rw [← HQ.out]; exact HN.out)
      · have HN := hno (by omega)
        have fa : ¬ 97 ≤ x := by omega
        have za : ¬ (97 : Int) ≤ (x : Int) := by omega
        have fb : x ≤ 122 := by omega
        have zb : (x : Int) ≤ 122 := by omega
        have fc : 65 ≤ x := by omega
        have zc : (65 : Int) ≤ (x : Int) := by omega
        have fd : ¬ x ≤ 90 := by omega
        have zd : ¬ (x : Int) ≤ 90 := by omega
        have fe : ¬ x = 95 := by omega
        have ze : ¬ (x : Int) = 95 := by omega
        have ye : ((x : Int) == 95) = false := by exact beq_eq_false_iff_ne.2 ze
        have ff : ¬ x < 48 := by omega
        have zf : ¬ (x : Int) < 48 := by omega
        have fg : 57 < x := by omega
        have zg : (57 : Int) < (x : Int) := by omega
        clear hyes hno
        go_wp2_with fail
        all_goals first
          | (exfalso; omega)
          | (rw [← HQ.out]; exact HN.out)
      · have HN := hno (by omega)
        have fa : 97 ≤ x := by omega
        have za : (97 : Int) ≤ (x : Int) := by omega
        have fb : ¬ x ≤ 122 := by omega
        have zb : ¬ (x : Int) ≤ 122 := by omega
        have fc : 65 ≤ x := by omega
        have zc : (65 : Int) ≤ (x : Int) := by omega
        have fd : ¬ x ≤ 90 := by omega
        have zd : ¬ (x : Int) ≤ 90 := by omega
        have fe : ¬ x = 95 := by omega
        have ze : ¬ (x : Int) = 95 := by omega
        have ye : ((x : Int) == 95) = false := by exact beq_eq_false_iff_ne.2 ze
        have ff : ¬ x < 48 := by omega
        have zf : ¬ (x : Int) < 48 := by omega
        have fg : 57 < x := by omega
        have zg : (57 : Int) < (x : Int) := by omega
        clear hyes hno
        go_wp2_with fail
        all_goals first
          | (exfalso; omega)
          | (rw [← HQ.out]; exact HN.out)
    · have hnz : ¬ (i : Int) < (s.size : Int) := by omega
      have HF := Lib.hid (show NameP s wr (.returned (.bool true)) wr from ⟨true, rfl, ⟨(fun _ => ⟨H0.out.1, H0.out.2, fun j hj => HA.out j hj (by have := HI.out; omega)⟩), (fun _ => rfl)⟩, rfl⟩)
      clear hlt
      go_wp2_with fail
      rw [← HQ.out]
      exact HF.out
end Go.Proofs.YtiapondfajmkaaaGreatDoor
