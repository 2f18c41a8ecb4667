/- SetIsGot, the reference: is a text a name? -/
import Derived.Test.YtiapondfajmkaaaGreatDoorSvA
namespace Go.Proofs.YtiapondfajmkaaaGreatDoor
open Go.RowKit

set_option maxRecDepth 100000 in
theorem letter_yes (c : Nat) (h : (97 ≤ c ∧ c ≤ 122) ∨ (65 ≤ c ∧ c ≤ 90) ∨ c = 95) (w : World) : Calls Tryz.prog 22 #[.int .u8 (c : Int)] w fun e w' => e = .returned (.bool true) ∧ w = w' := by
  rcases h with h | h | h
  · have za : (97 : Int) ≤ (c : Int) := by omega
    have zb : (c : Int) ≤ 122 := by omega
    have ze : ((c : Int) == 95) = false := beq_eq_false_iff_ne.2 (by omega)
    go_enter Tryz.func22, Tryz.ntmps22
    go_wp2_with fail
    go_ret
    exact ⟨rfl, rfl⟩
  · have za : ¬ (97 : Int) ≤ (c : Int) := by omega
    have zb : (c : Int) ≤ 122 := by omega
    have zc : (65 : Int) ≤ (c : Int) := by omega
    have zd : (c : Int) ≤ 90 := by omega
    have ze : ((c : Int) == 95) = false := beq_eq_false_iff_ne.2 (by omega)
    go_enter Tryz.func22, Tryz.ntmps22
    go_wp2_with fail
    go_ret
    exact ⟨rfl, rfl⟩
  · subst h
    go_enter Tryz.func22, Tryz.ntmps22
    go_wp2_with fail
    go_ret
    exact ⟨rfl, rfl⟩
set_option maxRecDepth 100000 in
theorem letter_no (c : Nat) (h : ¬ ((97 ≤ c ∧ c ≤ 122) ∨ (65 ≤ c ∧ c ≤ 90) ∨ c = 95)) (w : World) : Calls Tryz.prog 22 #[.int .u8 (c : Int)] w fun e w' => e = .returned (.bool false) ∧ w = w' := by
  have ze : ((c : Int) == 95) = false := beq_eq_false_iff_ne.2 (by omega)
  have hc : 122 < c ∨ (90 < c ∧ c < 97) ∨ c < 65 := by omega
  rcases hc with h1 | h1 | h1
  · have za : (97 : Int) ≤ (c : Int) := by omega
    have zb : ¬ (c : Int) ≤ 122 := by omega
    have zc : (65 : Int) ≤ (c : Int) := by omega
    have zd : ¬ (c : Int) ≤ 90 := by omega
    clear h
    go_enter Tryz.func22, Tryz.ntmps22
    go_wp2_with fail
    go_ret
    exact ⟨rfl, rfl⟩
  · have za : ¬ (97 : Int) ≤ (c : Int) := by omega
    have zc : (65 : Int) ≤ (c : Int) := by omega
    have zd : ¬ (c : Int) ≤ 90 := by omega
    clear h
    go_enter Tryz.func22, Tryz.ntmps22
    go_wp2_with fail
    go_ret
    exact ⟨rfl, rfl⟩
  · have za : ¬ (97 : Int) ≤ (c : Int) := by omega
    have zc : ¬ (65 : Int) ≤ (c : Int) := by omega
    clear h
    go_enter Tryz.func22, Tryz.ntmps22
    go_wp2_with fail
    go_ret
    exact ⟨rfl, rfl⟩
open Classical in
theorem letter_any (c : UInt8) (w : World) : Calls Tryz.prog 22 #[.int .u8 (c.toNat : Int)] w fun e w' => e = .returned (.bool (decide (letU c))) ∧ w = w' := by
  by_cases h : letU c
  · rw [decide_eq_true h]
    exact letter_yes c.toNat h w
  · rw [decide_eq_false h]
    exact letter_no c.toNat h w
set_option maxRecDepth 100000 in
theorem digit_yes (c : Nat) (h : 48 ≤ c ∧ c ≤ 57) (w : World) : Calls Tryz.prog 23 #[.int .u8 (c : Int)] w fun e w' => e = .returned (.bool true) ∧ w = w' := by
  have za : (48 : Int) ≤ (c : Int) := by omega
  have zb : (c : Int) ≤ 57 := by omega
  go_enter Tryz.func23, Tryz.ntmps23
  go_wp2_with fail
  go_ret
  exact ⟨rfl, rfl⟩
set_option maxRecDepth 100000 in
theorem digit_nope (c : Nat) (h : ¬ (48 ≤ c ∧ c ≤ 57)) (w : World) : Calls Tryz.prog 23 #[.int .u8 (c : Int)] w fun e w' => e = .returned (.bool false) ∧ w = w' := by
  have hc : 57 < c ∨ c < 48 := by omega
  rcases hc with h1 | h1
  · have za : (48 : Int) ≤ (c : Int) := by omega
    have zb : ¬ (c : Int) ≤ 57 := by omega
    clear h
    go_enter Tryz.func23, Tryz.ntmps23
    go_wp2_with fail
    go_ret
    exact ⟨rfl, rfl⟩
  · have za : ¬ (48 : Int) ≤ (c : Int) := by omega
    clear h
    go_enter Tryz.func23, Tryz.ntmps23
    go_wp2_with fail
    go_ret
    exact ⟨rfl, rfl⟩
open Classical in
theorem digit_any (c : UInt8) (w : World) : Calls Tryz.prog 23 #[.int .u8 (c.toNat : Int)] w fun e w' => e = .returned (.bool (decide (digU c))) ∧ w = w' := by
  by_cases h : digU c
  · rw [decide_eq_true h]
    exact digit_yes c.toNat h w
  · rw [decide_eq_false h]
    exact digit_nope c.toNat h w
theorem RName_no {s : ByteArray} {w : World} (h : ¬ nameOK s) : NameP s w (.returned (.bool false)) w := ⟨false, rfl, ⟨(fun e => by cases e), (fun e => absurd e h)⟩, rfl⟩
open Classical in
set_option maxRecDepth 100000 in
set_option maxHeartbeats 3200000 in
theorem rName_any (s : ByteArray) (w : World) : Calls Tryz.prog 8 #[.string s] w (NameP s w) := by
  obtain ⟨Q, hQ⟩ : ∃ Q, NameP s w = Q := ⟨_, rfl⟩
  rw [hQ]
  have HQ := Lib.hid hQ
  have HL := Lib.hid (fun (c : UInt8) W => letter_any c W)
  have HG := Lib.hid (fun (c : UInt8) W => digit_any c W)
  clear hQ
  rcases Nat.eq_zero_or_pos s.size with h0 | h0
  · have he := empty_of h0
    have he2 : (s.toList == []) = true := by rw [List.isEmpty_iff.1 he]; rfl
    have HF := Lib.hid (RName_no (s := s) (w := w) (fun h => by have := h.1; omega))
    clear h0
    go_enter Tryz.func8, Tryz.ntmps8
    go_wp2_with fail
    rw [← HQ.out]
    exact HF.out
  have he := full_of h0
  have he2 : (s.toList == []) = false := by
    cases hl : s.toList with
    | nil => rw [hl] at he; cases he
    | cons _ _ => rfl
  by_cases hl : s.size ≤ 64
  case neg =>
    have hl2 : (64 : Int) < (s.size : Int) := by omega
    have HF := Lib.hid (RName_no (s := s) (w := w) (fun h => hl h.2.1))
    clear h0 hl
    go_enter Tryz.func8, Tryz.ntmps8
    go_wp2_with fail
    rw [← HQ.out]
    exact HF.out
  have hl2 : ¬ (64 : Int) < (s.size : Int) := by omega
  have H0 := Lib.hid (And.intro h0 hl)
  have hp : (0 : Int) < (s.size : Int) := by omega
  cases hlet : decide (letU s[0])
  · have HF := Lib.hid (RName_no (s := s) (w := w) (fun h => by
      have := h.2.2 0 h0
      rcases this with h1 | h1
      · exact of_decide_eq_false hlet h1
      · exact h1.1 rfl))
    have HL0 := HL.out s[0]
    rw [hlet] at HL0
    have HL1 := Lib.hid HL0
    clear HL0 hlet
    go_enter Tryz.func8, Tryz.ntmps8
    go_wp2_with (go_at_call 22; refine (HL1.out _).mono ?_; rintro e w1 ⟨rfl, rfl⟩)
    rw [← HQ.out]
    exact HF.out
  have HL0 := HL.out s[0]
  rw [hlet] at HL0
  have HL1 := Lib.hid HL0
  clear HL0
  have HLE := Lib.hid (of_decide_eq_true hlet)
  clear hlet
  go_enter Tryz.func8, Tryz.ntmps8
  go_upto_region 3 with (go_at_call 22; refine (HL1.out _).mono ?_; rintro e w1 ⟨rfl, rfl⟩)
  go_wp2_with fail
  go_loopw [19] (fun s19 wr => ∃ i : Nat, s19 = .int .i64 (i : Int) ∧ Hid (i ≤ s.size) ∧ Hid (∀ j (h : j < s.size), j < i → letU s[j] ∨ digU s[j]) ∧ wr = w) (fun s19 _ => s.size - (intOf s19).toNat)
  case atStart => exact ⟨0, rfl, Lib.hid (Nat.zero_le _), Lib.hid (fun _ _ h => absurd h (Nat.not_lt_zero _)), rfl⟩
  case round =>
    obtain ⟨i, rfl, HI, HA, rfl⟩ := hrel
    by_cases hlt : i < s.size
    · have hltz : (i : Int) < (s.size : Int) := by omega
      have HLI := HL.out s[i]
      have HGI := HG.out s[i]
      cases h1 : decide (letU s[i])
      · cases h2 : decide (digU s[i])
        · have HF := Lib.hid (RName_no (s := s) (w := wr) (fun h => by
            rcases h.2.2 i hlt with h3 | h3
            · exact of_decide_eq_false h1 h3
            · exact of_decide_eq_false h2 h3.2))
          rw [h1] at HLI
          rw [h2] at HGI
          have HLJ := Lib.hid HLI
          have HGJ := Lib.hid HGI
          clear HLI HGI h1 h2
          go_wp2_with first
            | (go_at_call 22; refine (HLJ.out _).mono ?_; rintro e w1 ⟨rfl, rfl⟩)
            | (go_at_call 23; refine (HGJ.out _).mono ?_; rintro e w1 ⟨rfl, rfl⟩)
          rw [← HQ.out]
          exact HF.out
        · have HN : Hid (∀ j (h : j < s.size), j < i + 1 → letU s[j] ∨ digU s[j]) := Lib.hid (fun j h hj => by
            by_cases e : j = i
            · subst e; exact .inr (of_decide_eq_true h2)
            · exact HA.out j h (by omega))
          rw [h1] at HLI
          rw [h2] at HGI
          have HLJ := Lib.hid HLI
          have HGJ := Lib.hid HGI
          clear HLI HGI h1 h2
          go_wp2_with first
            | (go_at_call 22; refine (HLJ.out _).mono ?_; rintro e w1 ⟨rfl, rfl⟩)
            | (go_at_call 23; refine (HGJ.out _).mono ?_; rintro e w1 ⟨rfl, rfl⟩)
          all_goals first
            | (exfalso; omega)
            | (exact ⟨⟨i + 1, by go_num, Lib.hid hlt, HN, trivial⟩, by simp [intOf]; omega⟩)
      · have HN : Hid (∀ j (h : j < s.size), j < i + 1 → letU s[j] ∨ digU s[j]) := Lib.hid (fun j h hj => by
          by_cases e : j = i
          · subst e; exact .inl (of_decide_eq_true h1)
          · exact HA.out j h (by omega))
        rw [h1] at HLI
        have HLJ := Lib.hid HLI
        clear HLI HGI h1
        go_wp2_with (go_at_call 22; refine (HLJ.out _).mono ?_; rintro e w1 ⟨rfl, rfl⟩)
        all_goals first
          | (exfalso; omega)
          | (exact ⟨⟨i + 1, by go_num, Lib.hid hlt, HN, trivial⟩, by simp [intOf]; omega⟩)
    · have hnz : ¬ (i : Int) < (s.size : Int) := by omega
      have HF := Lib.hid (show NameP s wr (.returned (.bool true)) wr from ⟨true, rfl, ⟨(fun _ => ⟨H0.out.1, H0.out.2, fun j hj => by
        rcases HA.out j hj (by have := HI.out; omega) with h | h
        · exact .inl h
        · by_cases e : j = 0
          · subst e; exact .inl HLE.out
          · exact .inr ⟨e, h⟩⟩), (fun _ => rfl)⟩, rfl⟩)
      clear hlt
      go_wp2_with fail
      rw [← HQ.out]
      exact HF.out
end Go.Proofs.YtiapondfajmkaaaGreatDoor
