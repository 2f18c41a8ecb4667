/- Times: Next of the program and of the reference tell the same. -/
import Derived.Test.YtlhaidibcocooaaGreatDoorNextAll
import Derived.Test.YtlhaidibcocooaaGreatDoorTimesY
namespace Go.Proofs.YtlhaidibcocooaaGreatDoor
open Go.RowKit

theorem shown_bits {low high : Nat} {wk : Bool} {set : Nat} {special any : Bool} (h : (shownK low high wk set special any).isSome = true) (hset : set < 2 ^ 64) (hh : high < 63) : ∀ k, set.testBit k = true → low ≤ k ∧ k ≤ high := by
  have hall : allN low high < 2 ^ 64 := orL_lt _ 0 64 (fun n hn => by have := upL_lt low high 1 n hn; omega) (by decide)
  intro k hk
  have h1b : subN set (allN low high) = 0 := by
    by_cases hz : subN set (allN low high) = 0
    · exact hz
    · unfold shownK at h
      rw [if_pos (.inr hz)] at h
      cases h
  have := subN_zero hset hall h1b k hk
  unfold allN at this
  rw [orL_bit] at this
  simpa [upL_one _ low high k (Nat.le_refl _)] using this
theorem minutes_small {a0 : Nat} (h : (shownK 0 59 false a0 false false).isSome = true) (h0 : a0 < 18446744073709551616) : a0 < 1152921504606846976 := by
  have hb := shown_bits h h0 (by decide)
  have : (1152921504606846976 : Nat) = 2 ^ 60 := by decide
  rw [this]
  exact Nat.lt_pow_two_of_testBit a0 (fun k hk => by
    cases ht : a0.testBit k with
    | false => rfl
    | true => have := (hb k ht).2; omega)
def NextRel (er : Int) (f : Int → Bool) (m : Int) (v : Value) : Prop :=
  (er ≠ 0 ∧ v = .tuple #[.int .i64 0, .int .i64 er]) ∨ (er = 0 ∧ ¬(15778080 ≤ m ∧ m ≤ 68374079) ∧ v = .tuple #[.int .i64 0, .int .i64 3]) ∨
  (er = 0 ∧ (15778080 ≤ m ∧ m ≤ 68374079) ∧ ∃ r : Option Int, LeastAt f (m + 1) 68374080 r ∧ v = match r with | some n => .tuple #[.int .i64 n, .int .i64 0] | none => .tuple #[.int .i64 0, .int .i64 8])
theorem next_unique {er : Int} {f : Int → Bool} {m : Int} {a b : Value} (ha : NextRel er f m a) (hb : NextRel er f m b) : a = b := by
  rcases ha with ⟨h1, rfl⟩ | ⟨h1, h2, rfl⟩ | ⟨h1, h2, r, hr, rfl⟩
  · rcases hb with ⟨_, rfl⟩ | ⟨k1, _⟩ | ⟨k1, _⟩
    · rfl
    · exact absurd k1 h1
    · exact absurd k1 h1
  · rcases hb with ⟨k1, _⟩ | ⟨_, _, rfl⟩ | ⟨_, k2, _⟩
    · exact absurd h1 k1
    · rfl
    · exact absurd k2 h2
  · rcases hb with ⟨k1, _⟩ | ⟨_, k2, _⟩ | ⟨_, _, q, hq, rfl⟩
    · exact absurd h1 k1
    · exact absurd h2 k2
    · rw [least_unique hr hq]
theorem next_form {er : Int} {f : Int → Bool} {m : Int} {a : Value} (ha : NextRel er f m a) : ∃ n e : Int, a = .tuple #[.int .i64 n, .int .i64 e] := by
  rcases ha with ⟨_, rfl⟩ | ⟨_, _, rfl⟩ | ⟨_, _, r, _, rfl⟩
  · exact ⟨_, _, rfl⟩
  · exact ⟨_, _, rfl⟩
  · cases r <;> exact ⟨_, _, rfl⟩
def NextGives (er : Int) (f : Int → Bool) (m : Int) (w : World) (e : Ending) (w' : World) : Prop := ∃ v, NextRel er f m v ∧ e = .returned v ∧ Below w.heap.size w w'
/-- what printing tells, and what follows where there is a text -/
theorem print_facts (a0 a1 a2 a3 a4 : Nat) (b5 b6 : Bool) (h0 : a0 < 18446744073709551616) : ∃ (s : ByteArray) (er : Int), printV (fieldK a0 a1 a2 a3 a4 b5 b6) = .tuple #[.string s, .int .i64 er] ∧ (er = 0 → a0 < 1152921504606846976) := by
  by_cases h : ((List.range 5).all fun j => (fieldK a0 a1 a2 a3 a4 b5 b6 j).isSome) = true
  · refine ⟨_, 0, by unfold printV; rw [if_pos h], fun _ => minutes_small (List.all_eq_true.1 h 0 (by decide)) h0⟩
  · exact ⟨_, 5, by unfold printV; rw [if_neg h], fun h => absurd h (by decide)⟩

set_option maxRecDepth 100000 in
set_option maxHeartbeats 3200000 in
theorem next_any (a0 a1 a2 a3 a4 : Nat) (b5 b6 : Bool) (s : ByteArray) (er : Int) (m : Int) (w : World) (h0 : a0 < 18446744073709551616) (h1 : a1 < 18446744073709551616) (h2 : a2 < 18446744073709551616) (h3 : a3 < 18446744073709551616) (h4 : a4 < 18446744073709551616) (hp : printV (fieldK a0 a1 a2 a3 a4 b5 b6) = .tuple #[.string s, .int .i64 er]) (hs : er = 0 → a0 < 1152921504606846976) (hT : DebAt w) :
    Calls Tryz.prog 13 #[.agg #[.int .u64 (a0 : Int), .int .u64 (a1 : Int), .int .u64 (a2 : Int), .int .u64 (a3 : Int), .int .u64 (a4 : Int), .bool b5, .bool b6], .int .i64 m] w (NextGives er (hitB a0 a1 a2 a3 a4 b5 b6) m w) := by
  have HP := Lib.hid (fun W => print_any a0 a1 a2 a3 a4 b5 b6 W h0 h1 h2 h3 h4 (fields_small a0 a1 a2 a3 a4 b5 b6 h0 h1 h2 h3 h4))
  rw [hp] at HP
  have HD := Lib.hid (fun hk c W hc1 hc2 hW => due_any a0 a1 a2 a3 a4 b5 b6 c W hk h1 h2 h3 h4 hc1 hc2 hW)
  have HX := Lib.hid (BX.start w #[.int .u64 (a0 : Int), .int .u64 (a1 : Int), .int .u64 (a2 : Int), .int .u64 (a3 : Int), .int .u64 (a4 : Int), .bool b5, .bool b6] 24)
  have cx := HX.out.cells
  have lx := HX.out.lt
  have HS := Lib.hid hs
  have HT := Lib.hid hT
  generalize hitB a0 a1 a2 a3 a4 b5 b6 = f at *
  obtain ⟨Q, hQ⟩ : ∃ Q, NextGives er f m w = Q := ⟨_, rfl⟩
  rw [hQ]
  have HQ := Lib.hid hQ
  clear hQ h0 h1 h2 h3 h4 hp hs hT
  go_enter Tryz.func13, Tryz.ntmps13
  go_wp2_with fail
  refine (HP.out _).mono ?_
  rintro e w2 ⟨rfl, hb2⟩
  have HX2 := Lib.hid (HX.out.keep hb2)
  clear cx lx hb2 HX
  have cx := HX2.out.cells
  have lx := HX2.out.lt
  by_cases he : er = 0
  · subst he
    go_wp2_with fail
    refine (inYears_any m _).mono ?_
    rintro e w3 ⟨rfl, hb3⟩
    have HX3 := Lib.hid (HX2.out.keep hb3)
    clear cx lx hb3 HX2
    have cx := HX3.out.cells
    have lx := HX3.out.lt
    by_cases hy : 15778080 ≤ m ∧ m ≤ 68374079
    · have hyd : decide (15778080 ≤ m ∧ m ≤ 68374079) = true := by simpa using hy
      rw [hyd]
      clear hyd
      have hy1 := hy.1
      have hy2 := hy.2
      have HY := Lib.hid hy
      clear hy
      go_wp2_with fail
      refine (HD.out (HS.out trivial) (m + 1) _ (by omega) (by omega) (HT.out.keep HX3.out.below)).mono ?_
      rintro e w4 ⟨r, hr, rfl, hb4⟩
      have HX4 := Lib.hid (HX3.out.keep hb4)
      have HR := Lib.hid hr
      clear cx lx hb4 HX3 hr
      cases r with
      | none =>
        unfold dueV
        go_wp2_with fail
        rw [← HQ.out]
        exact ⟨_, .inr (.inr ⟨rfl, HY.out, none, HR.out, rfl⟩), rfl, HX4.out.below⟩
      | some n =>
        unfold dueV
        go_wp2_with fail
        rw [← HQ.out]
        exact ⟨_, .inr (.inr ⟨rfl, HY.out, some n, HR.out, rfl⟩), rfl, HX4.out.below⟩
    · have hyd : decide (15778080 ≤ m ∧ m ≤ 68374079) = false := by simpa using hy
      rw [hyd]
      have HY := Lib.hid hy
      clear hyd hy
      go_wp2_with fail
      rw [← HQ.out]
      exact ⟨_, .inr (.inl ⟨rfl, HY.out, rfl⟩), rfl, HX3.out.below⟩
  · have hne : (er == 0) = false := by rw [beq_eq_false_iff_ne]; exact he
    have hne2 : (er != 0) = true := by simpa using he
    have HE := Lib.hid he
    clear he
    go_wp2_with fail
    rw [← HQ.out]
    exact ⟨_, .inl ⟨HE.out, rfl⟩, rfl, HX2.out.below⟩

end Go.Proofs.YtlhaidibcocooaaGreatDoor
