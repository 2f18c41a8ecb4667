/- Times, the program: what a field may hold, and what a star with a step holds. (Begun; see NOTES.md.) -/
import Derived.Test.YtlhaidibcocooaaGreatDoorBase
import Derived.Test.YtlhaidibcocooaaGreatDoorTimesLaw
import Derived.IntWalk
import Derived.Laws.BitsAllLaws
import Derived.Deep.DeepCutAuto
namespace Go.Proofs.YtlhaidibcocooaaGreatDoor
open Go.RowKit

theorem or_bit (acc n : Nat) (ha : acc < 18446744073709551616) (hn : n < 64) : bits .or .u64 (acc : Int) (IntKind.u64.wrap ((2 : Int) ^ n)) = ((acc ||| 2 ^ n : Nat) : Int) := by
  have h2 : 2 ^ n < 2 ^ 64 := Nat.pow_lt_pow_right (by decide) hn
  have h3 : ((2 : Int) ^ n) = ((2 ^ n : Nat) : Int) := by norm_cast
  have h4 : IntKind.u64.wrap ((2 ^ n : Nat) : Int) = ((2 ^ n : Nat) : Int) := by
    have hw : ∀ x : Int, IntKind.u64.wrap x = x % 18446744073709551616 := fun x => by simp [IntKind.wrap, IntKind.bits, IntKind.signed]
    rw [hw]
    have h5 : (2 ^ n : Nat) < 18446744073709551616 := h2
    generalize (2 ^ n : Nat) = m at *
    omega
  rw [h3, h4]
  exact u64_or_nat acc (2 ^ n) ha h2
theorem or_lt (acc n : Nat) (ha : acc < 18446744073709551616) (hn : n < 64) : acc ||| 2 ^ n < 18446744073709551616 :=
  Nat.or_lt_two_pow (n := 64) ha (Nat.pow_lt_pow_right (by decide) hn)
set_option maxRecDepth 100000 in
set_option maxHeartbeats 1600000 in
theorem all_any (low high : Nat) (nm : ByteArray) (w : World) (hh : high ≤ 59) (hl : low ≤ high) :
    Calls Tryz.prog 49 #[.agg #[.int .i64 (low : Int), .int .i64 (high : Int), .string nm]] w fun e w' => e = .returned (.int .u64 (allN low (if high = 7 then 6 else high) : Int)) ∧ Below w.heap.size w w' := by
  obtain ⟨RES, hres⟩ : ∃ RES, orL 0 (upL low (if high = 7 then 6 else high) 1) = RES := ⟨_, rfl⟩
  obtain ⟨top, htop⟩ : ∃ top, (if high = 7 then 6 else high) = top := ⟨_, rfl⟩
  have htt : top ≤ 59 ∧ low ≤ top + 1 := by rw [← htop]; split <;> omega
  show Calls _ _ _ _ fun e w' => e = .returned (.int .u64 (orL 0 (upL low (if high = 7 then 6 else high) 1) : Int)) ∧ _
  rw [hres]
  rw [htop] at hres
  have HR := Lib.hid hres
  clear hres
  go_enter Tryz.func49, Tryz.ntmps49
  go_upto_if 9 with fail
  go_cut [3] (fun s3 wx => s3 = .int .i64 (top : Int) ∧ wx = w.alloc (.cells #[.int .i64 (low : Int), .int .i64 (high : Int), .string nm] 60))
  case first =>
    by_cases h7 : high = 7
    · subst h7
      have : top = 6 := by rw [← htop]; rfl
      subst this
      go_wp2_with fail
      go_meet
      exact ⟨rfl, rfl⟩
    · have : top = high := by rw [← htop, if_neg h7]
      subst this
      have h7' : ((top : Int) == 7) = false := by rw [beq_eq_false_iff_ne]; omega
      go_wp2_with fail
      go_meet
      exact ⟨rfl, rfl⟩
  case rest =>
    obtain ⟨rfl, hwc⟩ := hcut
    have HB := Lib.hid (show Below w.heap.size w wc from by rw [hwc]; exact (Below.refl _ w).alloc (Nat.le_refl _) _)
    have c0 : wc.cell? ⟨w.heap.size, 0, none⟩ = some (.int .i64 (low : Int)) := by
      rw [hwc]
      have hh := heap_alloc_new w (.cells #[.int .i64 (low : Int), .int .i64 (high : Int), .string nm] 60)
      unfold World.cell?
      dsimp only
      rw [hh]
      rfl
    clear hwc htop
    go_wp2_with fail
    go_loopw [4, 5] (fun s4 s5 wr => ∃ acc n : Nat, s4 = .int .u64 (acc : Int) ∧ s5 = .int .i64 (n : Int) ∧ n ≤ top + 1 ∧ acc < 18446744073709551616 ∧ Hid (orL acc (upL n top 1) = RES) ∧ wr = wc) (fun _ s5 _ => top + 1 - (intOf s5).toNat)
    case atStart => exact ⟨0, low, rfl, rfl, htt.2, by decide, HR.out, rfl⟩
    case round =>
      obtain ⟨acc, n, rfl, rfl, hn, hacc, HE, rfl⟩ := hrel
      by_cases hlt : n ≤ top
      · have HE2 := HE.out
        unfold upL at HE2
        rw [dif_pos ⟨hlt, by decide⟩, orL] at HE2
        have HE3 := Lib.hid HE2
        have hor := or_bit acc n hacc (by omega)
        have hlt2 := Lib.hid (or_lt acc n hacc (by omega))
        clear HE2 HE
        generalize acc ||| 2 ^ n = acc2 at *
        go_wp2_with fail
        exact ⟨⟨acc2, n + 1, rfl, by go_num, by omega, hlt2.out, HE3, trivial⟩, by simp [intOf]; omega⟩
      · have hR : acc = RES := by
          have h := HE.out
          unfold upL at h
          rw [dif_neg (by omega)] at h
          exact h
        subst hR
        go_wp2_with fail
        go_ret
        exact ⟨rfl, HB.out⟩

theorem box_cell (w : World) (cs : Array Value) (T : TypeId) (j : Nat) : (w.alloc (.cells cs T)).cell? ⟨w.heap.size, j, none⟩ = cs[j]? := by
  have hh := heap_alloc_new w (.cells cs T)
  unfold World.cell?
  dsimp only
  rw [hh]
  rfl
set_option maxRecDepth 100000 in
set_option maxHeartbeats 1600000 in
theorem stepped_any (low high step : Nat) (nm : ByteArray) (w : World) (hh : high ≤ 59) (hl : low ≤ high) (h1 : 1 ≤ step) (h2 : step ≤ 99) :
    Calls Tryz.prog 51 #[.agg #[.int .i64 (low : Int), .int .i64 (high : Int), .string nm], .int .i64 (step : Int)] w fun e w' => e = .returned (.int .u64 (stepN low high (decide (high = 7)) step : Int)) ∧ Below w.heap.size w w' := by
  obtain ⟨RES, hres⟩ : ∃ RES, orL 0 ((upL low high step).map (foldS (decide (high = 7)))) = RES := ⟨_, rfl⟩
  show Calls _ _ _ _ fun e w' => e = .returned (.int .u64 (orL 0 ((upL low high step).map (foldS (decide (high = 7)))) : Int)) ∧ _
  rw [hres]
  have HR := Lib.hid hres
  clear hres
  have HB := Lib.hid ((Below.refl w.heap.size w).alloc (Nat.le_refl _) (.cells #[.int .i64 (low : Int), .int .i64 (high : Int), .string nm] 60))
  have c0 := box_cell w #[.int .i64 (low : Int), .int .i64 (high : Int), .string nm] 60 0
  have c1 := box_cell w #[.int .i64 (low : Int), .int .i64 (high : Int), .string nm] 60 1
  go_enter Tryz.func51, Tryz.ntmps51
  go_upto_region 1 with fail
  generalize w.alloc (.cells #[.int .i64 (low : Int), .int .i64 (high : Int), .string nm] 60) = w1 at *
  have d0 : w1.cell? ⟨w.heap.size, 0, none⟩ = some (.int .i64 (low : Int)) := c0
  have d1 : w1.cell? ⟨w.heap.size, 1, none⟩ = some (.int .i64 (high : Int)) := c1
  clear c0 c1
  go_wp2_with fail
  go_loopw [5, 6] (fun s4 s5 wr => ∃ acc n : Nat, s4 = .int .u64 (acc : Int) ∧ s5 = .int .i64 (n : Int) ∧ n ≤ high + 99 ∧ acc < 18446744073709551616 ∧ Hid (orL acc ((upL n high step).map (foldS (decide (high = 7)))) = RES) ∧ wr = w1) (fun _ s5 _ => high + 99 - (intOf s5).toNat)
  case atStart => exact ⟨0, low, rfl, rfl, by omega, by decide, HR.out, rfl⟩
  case round =>
    obtain ⟨acc, n, rfl, rfl, hn, hacc, HE, rfl⟩ := hrel
    by_cases hlt : n ≤ high
    · have HE2 := HE.out
      unfold upL at HE2
      rw [dif_pos ⟨hlt, by omega⟩, List.map_cons, orL] at HE2
      by_cases hf : high = 7 ∧ n = 7
      · obtain ⟨rfl, rfl⟩ := hf
        have HE3 : Hid (orL (acc ||| 1) ((upL (7 + step) 7 step).map (foldS (decide (7 = 7)))) = RES) := Lib.hid HE2
        have hor : bits .or .u64 (acc : Int) 1 = ((acc ||| 1 : Nat) : Int) := u64_or_nat acc 1 hacc (by decide)
        have hlt2 : Hid (acc ||| 1 < 18446744073709551616) := Lib.hid (or_lt acc 0 hacc (by omega))
        clear HE2 HE HR
        generalize acc ||| 1 = acc2 at *
        go_wp2_with fail
        exact ⟨⟨acc2, 7 + step, rfl, by go_num, by omega, hlt2.out, HE3, trivial⟩, by simp [intOf]; omega⟩
      · have hfs : foldS (decide (high = 7)) n = n := by
          unfold foldS
          rw [if_neg]
          rintro ⟨a, b⟩
          exact hf ⟨by simpa using a, b⟩
        rw [hfs] at HE2
        have HE3 := Lib.hid HE2
        have hor := or_bit acc n hacc (by omega)
        have hlt2 := Lib.hid (or_lt acc n hacc (by omega))
        have hff : (((high : Int) == 7) = false) ∨ (((high : Int) == 7) = true ∧ ((n : Int) == 7) = false) := by
          by_cases h7 : high = 7
          · exact .inr ⟨by rw [beq_iff_eq]; omega, by rw [beq_eq_false_iff_ne]; omega⟩
          · exact .inl (by rw [beq_eq_false_iff_ne]; omega)
        clear HE2 HE HR hf hfs
        generalize acc ||| 2 ^ n = acc2 at *
        rcases hff with e7 | ⟨e7, e8⟩
        all_goals
          go_wp2_with fail
          exact ⟨⟨acc2, n + step, rfl, by go_num, by omega, hlt2.out, HE3, trivial⟩, by simp [intOf]; omega⟩
    · have hR : acc = RES := by
        have h := HE.out
        unfold upL at h
        rw [dif_neg (by omega)] at h
        exact h
      subst hR
      go_wp2_with fail
      go_ret
      exact ⟨rfl, HB.out⟩

end Go.Proofs.YtlhaidibcocooaaGreatDoor
