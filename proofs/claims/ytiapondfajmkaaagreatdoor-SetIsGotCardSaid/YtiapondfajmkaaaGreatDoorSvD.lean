/- Shell states: the closures of Check; lists without elements; variables that rise. -/
import Derived.Test.YtiapondfajmkaaaGreatDoorSvC
namespace Go.Proofs.YtiapondfajmkaaaGreatDoor
open Go.RowKit

noncomputable def badName (v : VarV) : Bool := !(@decide (nameOK v.nm) (Classical.propDecidable _))
def badList (v : VarV) : Bool := (decide (0 < v.ls.length) && !v.il) || (decide (0 < v.vl.size) && v.il)
set_option maxRecDepth 100000 in
theorem badName_tells (w : World) (L : List VarV) : TellsV w 31 #[] badName L := by
  intro v _ s W _ _
  obtain ⟨sA, sn, sc⟩ := s
  obtain ⟨n, vl, il, ls, ex, fx⟩ := v
  have HB := Lib.hid (fun f (hf : f = true ↔ nameOK n) (W' : World) (h : Below W.heap.size W W') => (show Ending.returned (.bool (!f)) = .returned (.bool (badName ⟨n, vl, il, ls, ex, fx⟩)) ∧ Below W.heap.size W W' from ⟨ret_bool (by
    unfold badName
    by_cases h : nameOK n
    · rw [hf.2 h, @decide_eq_true _ (Classical.propDecidable _) h]
    · have hf2 : f = false := by
        cases f
        · rfl
        · exact absurd (hf.1 rfl) h
      rw [hf2, @decide_eq_false _ (Classical.propDecidable _) h]), h⟩))
  rw [Array.append_empty]
  unfold aggV sv
  generalize badName ⟨n, vl, il, ls, ex, fx⟩ = R at *
  go_enter Tryz.func31, Tryz.ntmps31
  go_wp2_with (go_at_call 32; refine (isName_any _ _).mono ?_; rintro e w2 ⟨f, rfl, hf, rfl⟩)
  have HF := Lib.hid (HB.out f hf _ ((Below.refl _ W).alloc (Nat.le_refl _) (.cells #[.string n, .string vl, .bool il, .slice sA sn sc, .bool ex, .bool fx] 32)))
  clear hf
  go_wp2_with fail
  go_ret
  exact HF.out
set_option maxRecDepth 100000 in
set_option maxHeartbeats 1600000 in
theorem badList_tells (w : World) (L : List VarV) : TellsV w 42 #[] badList L := by
  intro v _ s W _ hsl
  obtain ⟨sA, sn, sc⟩ := s
  obtain ⟨n, vl, il, ls, ex, fx⟩ := v
  obtain rfl := SL.len hsl
  have HFIN := Lib.hid (show ∀ b, b = badList ⟨n, vl, il, ls, ex, fx⟩ → Ending.returned (.bool b) = .returned (.bool (badList ⟨n, vl, il, ls, ex, fx⟩)) ∧ Below W.heap.size W (W.alloc (.cells #[.string n, .string vl, .bool il, .slice sA ls.length sc, .bool ex, .bool fx] 32)) from fun b hb => ⟨ret_bool hb, (Below.refl _ W).alloc (Nat.le_refl _) _⟩)
  obtain ⟨R, hR⟩ : ∃ R, R = badList ⟨n, vl, il, ls, ex, fx⟩ := ⟨_, rfl⟩
  rw [← hR] at HFIN
  rw [Array.append_empty]
  unfold aggV sv
  simp only []
  have hR2 : R = ((decide (0 < ls.length) && !il) || (decide (0 < vl.size) && il)) := hR
  clear hsl
  rw [← hR]
  clear hR
  rcases Nat.eq_zero_or_pos ls.length with hl | hl
  · have hlz : ¬ (ls.length : Int) > 0 := by omega
    have hln : ¬ 0 < ls.length := by omega
    rw [decide_eq_false hln] at hR2
    clear hl hln
    rcases Nat.eq_zero_or_pos vl.size with hv | hv
    · have he := empty_of hv
      have hvn : ¬ 0 < vl.size := by omega
      rw [decide_eq_false hvn] at hR2
      have HF := Lib.hid (HFIN.out false (by rw [hR2]; rfl))
      clear hR2 HFIN
      go_enter Tryz.func42, Tryz.ntmps42
      go_wp2_with fail
      all_goals (go_ret; exact HF.out)
    · have he := full_of hv
      rw [decide_eq_true hv] at hR2
      have HF := Lib.hid (HFIN.out il (by rw [hR2]; cases il <;> rfl))
      clear hR2 HFIN
      go_enter Tryz.func42, Tryz.ntmps42
      go_wp2_with fail
      all_goals (go_ret; exact HF.out)
  · have hlz : (ls.length : Int) > 0 := by omega
    rw [decide_eq_true hl] at hR2
    cases il
    · have HF := Lib.hid (HFIN.out true (by rw [hR2]; rfl))
      clear hR2 HFIN
      go_enter Tryz.func42, Tryz.ntmps42
      go_wp2_with fail
      all_goals (go_ret; exact HF.out)
    · rcases Nat.eq_zero_or_pos vl.size with hv | hv
      · have he := empty_of hv
        have hvn : ¬ 0 < vl.size := by omega
        rw [decide_eq_false hvn] at hR2
        have HF := Lib.hid (HFIN.out false (by rw [hR2]; rfl))
        clear hR2 HFIN
        go_enter Tryz.func42, Tryz.ntmps42
        go_wp2_with fail
        all_goals (go_ret; exact HF.out)
      · have he := full_of hv
        rw [decide_eq_true hv] at hR2
        have HF := Lib.hid (HFIN.out true (by rw [hR2]; rfl))
        clear hR2 HFIN
        go_enter Tryz.func42, Tryz.ntmps42
        go_wp2_with fail
        all_goals (go_ret; exact HF.out)
theorem keyV_any (v : VarV) (s : SV) (W : World) : Calls Tryz.prog 37 #[aggV (v, s)] W fun e W' => e = .returned (.string v.nm) ∧ Below W.heap.size W W' := by
  obtain ⟨sA, sn, sc⟩ := s
  obtain ⟨n, vl, il, ls, ex, fx⟩ := v
  unfold aggV sv
  go_enter Tryz.func37, Tryz.ntmps37
  go_wp2_with fail
  go_ret
  exact ⟨rfl, (Below.refl _ W).alloc (Nat.le_refl _) _⟩
theorem fnone_any (g : Nat) (w : World) : Calls Tryz.prog 63 #[.slice none 0 0, .func (.func g) #[] #[]] w fun e w' => e = .returned (.int .i64 (-1)) ∧ w = w' := by
  go_enter Tryz.func63, Tryz.ntmps63
  go_wp2_with fail
  refine wp_loop_rounds 1 ?_
  rw [rounds_succ]
  go_wp2_with fail
  go_ret
  exact ⟨rfl, rfl⟩
theorem fnoneC_any (g : Nat) (w : World) : Calls Tryz.prog 33 #[.slice none 0 0, .func (.func g) #[] #[]] w fun e w' => e = .returned (.bool false) ∧ w = w' := by
  go_enter Tryz.func33, Tryz.ntmps33
  go_wp2_with (go_at_call 63; refine (fnone_any g _).mono ?_; rintro e w2 ⟨rfl, rfl⟩)
  go_ret
  exact ⟨rfl, rfl⟩
theorem tnone_any (g : Nat) (w : World) : Calls Tryz.prog 66 #[.slice none 0 0, .func (.func g) #[] #[]] w fun e w' => e = .returned (.int .i64 (-1)) ∧ w = w' := by
  go_enter Tryz.func66, Tryz.ntmps66
  go_wp2_with fail
  refine wp_loop_rounds 1 ?_
  rw [rounds_succ]
  go_wp2_with fail
  go_ret
  exact ⟨rfl, rfl⟩
theorem tnoneC_any (g : Nat) (w : World) : Calls Tryz.prog 46 #[.slice none 0 0, .func (.func g) #[] #[]] w fun e w' => e = .returned (.bool false) ∧ w = w' := by
  go_enter Tryz.func46, Tryz.ntmps46
  go_wp2_with (go_at_call 66; refine (tnone_any g _).mono ?_; rintro e w2 ⟨rfl, rfl⟩)
  go_ret
  exact ⟨rfl, rfl⟩
theorem frise_any (g : Nat) (w : World) : Calls Tryz.prog 38 #[.slice none 0 0, .func (.func g) #[] #[]] w fun e w' => e = .returned (.bool true) ∧ w = w' := by
  go_enter Tryz.func38, Tryz.ntmps38
  go_wp2_with fail
  refine wp_loop_rounds 1 ?_
  rw [rounds_succ]
  go_wp2_with fail
  go_ret
  exact ⟨rfl, rfl⟩
theorem trise_any (g : Nat) (w : World) : Calls Tryz.prog 40 #[.slice none 0 0, .func (.func g) #[] #[]] w fun e w' => e = .returned (.bool true) ∧ w = w' := by
  go_enter Tryz.func40, Tryz.ntmps40
  go_wp2_with fail
  refine wp_loop_rounds 1 ?_
  rw [rounds_succ]
  go_wp2_with fail
  go_ret
  exact ⟨rfl, rfl⟩
set_option maxRecDepth 100000 in
theorem fclone_any (w : World) : Calls Tryz.prog 87 #[.slice none 0 0] w fun e w' => e = .returned (.slice none 0 0) ∧ w = w' := by
  have kn := fun (w : World) (a : Option Addr) (n c n' c' : Nat) => Lib.run_eql_slice_nil (P := Tryz.prog) w 25 77 a n c n' c' Tryz.underlying25
  go_enter Tryz.func87, Tryz.ntmps87
  go_wp2_with fail
  go_ret
  exact ⟨rfl, rfl⟩
set_option maxRecDepth 100000 in
theorem tclone_any (w : World) : Calls Tryz.prog 88 #[.slice none 0 0] w fun e w' => e = .returned (.slice none 0 0) ∧ w = w' := by
  have kn := fun (w : World) (a : Option Addr) (n c n' c' : Nat) => Lib.run_eql_slice_nil (P := Tryz.prog) w 26 85 a n c n' c' Tryz.underlying26
  go_enter Tryz.func88, Tryz.ntmps88
  go_wp2_with fail
  go_ret
  exact ⟨rfl, rfl⟩
set_option maxHeartbeats 1600000 in
theorem swithin_any (n a b : Int) (w : World) :
    Calls Tryz.prog 49 #[.int .i64 n, .int .i64 a, .int .i64 b] w fun e w' => e = .returned (.bool (decide (a ≤ n ∧ n ≤ b))) ∧ w = w' := by
  by_cases h0 : n ≥ a
  · by_cases h1 : n ≤ b
    · have hd : decide (a ≤ n ∧ n ≤ b) = true := decide_eq_true ⟨h0, h1⟩
      rw [hd]
      clear hd
      go_enter Tryz.func49, Tryz.ntmps49
      go_wp2_with fail
      go_ret
      exact ⟨rfl, rfl⟩
    · have hd : decide (a ≤ n ∧ n ≤ b) = false := decide_eq_false fun h => h1 h.2
      rw [hd]
      clear hd
      go_enter Tryz.func49, Tryz.ntmps49
      go_wp2_with fail
      go_ret
      exact ⟨rfl, rfl⟩
  · have hd : decide (a ≤ n ∧ n ≤ b) = false := decide_eq_false fun h => h0 h.1
    rw [hd]
    clear hd
    go_enter Tryz.func49, Tryz.ntmps49
    go_wp2_with fail
    go_ret
    exact ⟨rfl, rfl⟩
end Go.Proofs.YtiapondfajmkaaaGreatDoor
