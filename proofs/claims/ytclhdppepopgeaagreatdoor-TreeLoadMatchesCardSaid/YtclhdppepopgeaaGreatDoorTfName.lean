/- The tree's lists, the reference: names, credentials, what an entry may be. (Printed by tools/gtfname.py.) -/
import Derived.Test.YtclhdppepopgeaaGreatDoorTrText
namespace Go.Proofs.YtclhdppepopgeaaGreatDoor
open Go.RowKit

theorem dot_dec (s : ByteArray) : (s.toList == [46]) = decide (s = ⟨#[46]⟩) := by rw [← beq_dec, ByteArray.toList_eq ⟨#[46]⟩]
theorem dots_dec (s : ByteArray) : (s.toList == [46, 46]) = decide (s = ⟨#[46, 46]⟩) := by rw [← beq_dec, ByteArray.toList_eq ⟨#[46, 46]⟩]
/-- what the reference calls a name -/
def rname (s : ByteArray) : Bool := !decide (s = noneB) && !decide (s = ⟨#[46]⟩) && !decide (s = ⟨#[46, 46]⟩)
theorem name_rname (s : ByteArray) : nameOk s = (rname s && decide (s.size ≤ 64) && !s.data.toList.contains 0 && !s.data.toList.contains 47) := by
  have h1 : decide (1 ≤ s.size) = !decide (s = noneB) := by
    rw [Bool.eq_iff_iff]
    simp only [decide_eq_true_eq, Bool.not_eq_true', decide_eq_false_iff_not]
    constructor
    · intro h e
      rw [e] at h
      exact absurd h (by decide)
    · intro h
      refine Nat.one_le_iff_ne_zero.2 (fun h0 => h (ByteArray.ext ?_))
      exact Array.eq_empty_of_size_eq_zero h0
  have h2 : decide (s ≠ ⟨#[46]⟩) = !decide (s = ⟨#[46]⟩) := by simp
  have h3 : decide (s ≠ ⟨#[46, 46]⟩) = !decide (s = ⟨#[46, 46]⟩) := by simp
  unfold nameOk rname
  rw [h1, h2, h3]
  ac_rfl
set_option maxRecDepth 100000 in
set_option maxHeartbeats 1600000 in
theorem rIsName_any (s : ByteArray) (w : World) :
    Calls Tryz.prog 13 #[.string s] w fun e w' => e = .returned (.bool (rname s)) ∧ w' = w := by
  have e0 := empty_dec s
  have e1 := dot_dec s
  have e2 := dots_dec s
  obtain ⟨R, hR⟩ : ∃ R, R = rname s := ⟨_, rfl⟩
  rw [← hR]
  unfold rname at hR
  generalize decide (s = noneB) = b0 at e0 hR
  generalize decide (s = ⟨#[46]⟩) = b1 at e1 hR
  generalize decide (s = ⟨#[46, 46]⟩) = b2 at e2 hR
  have HR := Lib.hid hR
  clear hR
  cases b0 with
  | true =>
    have hf := Lib.hid (show R = false by rw [HR.out]; rfl)
    go_enter Tryz.func13, Tryz.ntmps13
    go_wp2_with fail
    go_ret
    exact ⟨ret_bool hf.out.symm, rfl⟩
  | false =>
    cases b1 with
    | true =>
      have hf := Lib.hid (show R = false by rw [HR.out]; rfl)
      go_enter Tryz.func13, Tryz.ntmps13
      go_wp2_with fail
      go_ret
      exact ⟨ret_bool hf.out.symm, rfl⟩
    | false =>
      cases b2 with
      | true =>
        have hf := Lib.hid (show R = false by rw [HR.out]; rfl)
        go_enter Tryz.func13, Tryz.ntmps13
        go_wp2_with fail
        go_ret
        exact ⟨ret_bool hf.out.symm, rfl⟩
      | false =>
        have hf := Lib.hid (show R = true by rw [HR.out]; rfl)
        go_enter Tryz.func13, Tryz.ntmps13
        go_wp2_with fail
        go_ret
        exact ⟨ret_bool hf.out.symm, rfl⟩

def badB (n : Int) : Bool := decide (n < 0) || decide (2147483647 < n)
set_option maxHeartbeats 800000 in
theorem bad_any (n : Int) (w : World) : Calls Tryz.prog 52 #[.int .i64 n] w fun e w' => e = .returned (.bool (badB n)) ∧ w' = w := by
  by_cases h1 : n < 0
  · have hf := Lib.hid (show badB n = true by simp [badB, h1])
    go_enter Tryz.func52, Tryz.ntmps52
    go_wp2_with fail
    go_ret
    exact ⟨ret_bool hf.out.symm, rfl⟩
  · have hf := Lib.hid (show badB n = decide (2147483647 < n) by simp [badB, h1])
    go_enter Tryz.func52, Tryz.ntmps52
    go_wp2_with fail
    go_ret
    exact ⟨ret_bool hf.out.symm, rfl⟩
set_option maxHeartbeats 800000 in
theorem indexFunc_none (f : Value) (w : World) : Calls Tryz.prog 74 #[.slice none 0 0, f] w fun e w' => e = .returned (.int .i64 (-1)) ∧ w' = w := by
  go_enter Tryz.func74, Tryz.ntmps74
  go_wp2_with fail
  go_loopw [8] (fun s5 wr => s5 = .int .i64 0 ∧ wr = w) (fun _ _ => 0)
  case atStart => exact ⟨rfl, rfl⟩
  case round =>
    obtain ⟨rfl, hwr⟩ := hrel
    subst hwr
    go_wp2_with fail
    go_ret
    exact ⟨rfl, rfl⟩
set_option maxHeartbeats 800000 in
theorem containsFunc_none (f : Value) (w : World) : Calls Tryz.prog 53 #[.slice none 0 0, f] w fun e w' => e = .returned (.bool false) ∧ w' = w := by
  have H := Lib.hid (indexFunc_none f w)
  go_enter Tryz.func53, Tryz.ntmps53
  go_wp2_with fail
  refine H.out.mono ?_
  rintro e w1 ⟨rfl, rfl⟩
  go_wp2_with fail
  go_ret
  exact ⟨rfl, rfl⟩

def goodB (u g : Int) : Bool := !badB u && !badB g
set_option maxRecDepth 100000 in
set_option maxHeartbeats 1600000 in
theorem goodCred_any (u g : Int) (w : World) : Calls Tryz.prog 28 #[.agg #[.int .i64 u, .int .i64 g, .slice none 0 0]] w fun e w' => e = .returned (.bool (goodB u g)) ∧ Below w.heap.size w w' := by
  have HU := Lib.hid (fun W => bad_any u W)
  have HG := Lib.hid (fun W => bad_any g W)
  have HB : Hid (∀ cs T, Below w.heap.size w (w.alloc (.cells cs T))) := Lib.hid (fun cs T => (Below.refl _ _).alloc (Nat.le_refl _) _)
  unfold goodB
  generalize badB u = bu at *
  generalize badB g = bg at *
  cases bu with
  | true =>
    go_enter Tryz.func28, Tryz.ntmps28
    go_wp2_with fail
    refine (HU.out _).mono ?_
    rintro e w1 ⟨rfl, rfl⟩
    go_wp2_with fail
    go_ret
    exact ⟨rfl, HB.out _ _⟩
  | false =>
    cases bg with
    | true =>
      go_enter Tryz.func28, Tryz.ntmps28
      go_wp2_with fail
      refine (HU.out _).mono ?_
      rintro e w1 ⟨rfl, rfl⟩
      go_wp2_with fail
      refine (HG.out _).mono ?_
      rintro e w1 ⟨rfl, rfl⟩
      go_wp2_with fail
      go_ret
      exact ⟨rfl, HB.out _ _⟩
    | false =>
      go_enter Tryz.func28, Tryz.ntmps28
      go_wp2_with fail
      refine (HU.out _).mono ?_
      rintro e w1 ⟨rfl, rfl⟩
      go_wp2_with fail
      refine (HG.out _).mono ?_
      rintro e w1 ⟨rfl, rfl⟩
      go_wp2_with fail
      refine (containsFunc_none _ _).mono ?_
      rintro e w1 ⟨rfl, rfl⟩
      go_wp2_with fail
      go_ret
      exact ⟨rfl, HB.out _ _⟩

/-- what a node may be made of -/
def formB (k m : Int) (s : ByteArray) : Bool := decide (1 ≤ k) && decide (k ≤ 4) && decide (0 ≤ m) && decide (m ≤ 2047) && textOk k s
set_option maxRecDepth 100000 in
set_option maxHeartbeats 3200000 in
theorem makeForm_any (k m : Int) (s : ByteArray) (w : World) (hs : s.size ≤ maxLen) :
    Calls Tryz.prog 29 #[.agg #[.int .i64 0, .int .i64 0, .slice none 0 0], .int .i64 k, .int .i64 m, .string s] w (Code0 (formB k m s) w) := by
  have HB : Hid (∀ cs T, Below w.heap.size w (w.alloc (.cells cs T))) := Lib.hid (fun cs T => (Below.refl _ _).alloc (Nat.le_refl _) _)
  have HI := Lib.hid (fun W => rIsName_any s W)
  have HX := Lib.hid (fun W => Tryz.strings_IndexByte s 0 W)
  have HC := Lib.hid (fun W => Tryz.strings_Contains_one s 47 W)
  have hz2 : decide (0 ≤ Lib.indexByte s.data.toList 0) = s.data.toList.contains 0 := (Lib.contains_iff_indexByte _ _).symm
  have hz3 : decide (0 ≤ Lib.indexByte s.data.toList 47) = s.data.toList.contains 47 := (Lib.contains_iff_indexByte _ _).symm
  rw [show (0 : Int).toNat.toUInt8 = 0 from rfl] at HX
  rw [hz3] at HC
  have hemp := empty_dec s
  have hname := name_rname s
  obtain ⟨R, hR⟩ : ∃ R, R = formB k m s := ⟨_, rfl⟩
  rw [← hR]
  unfold formB textOk at hR
  rw [hname, show decide (s ≠ noneB) = !decide (s = noneB) by simp] at hR
  generalize nameOk s = nk at hname
  generalize rname s = bn at HI hR
  generalize Lib.indexByte s.data.toList 0 = z at HX hz2
  generalize s.data.toList.contains 0 = bz at hz2 hR
  generalize s.data.toList.contains 47 = bc at HC hR
  generalize decide (s = noneB) = be at hemp hR
  have HR := Lib.hid hR
  clear hR hname hz3
  by_cases hk1 : k < 1
  · have hf := Lib.hid (show R = false by rw [HR.out, decide_eq_false (show ¬ 1 ≤ k by omega)]; rfl)
    go_enter Tryz.func29, Tryz.ntmps29
    go_wp2_with fail
    go_ret
    exact ⟨_, rfl, by rw [hf.out]; rfl, HB.out _ _⟩
  by_cases hk4 : 4 < k
  · have hf := Lib.hid (show R = false by rw [HR.out, decide_eq_false (show ¬ k ≤ 4 by omega), Bool.and_false]; rfl)
    go_enter Tryz.func29, Tryz.ntmps29
    go_wp2_with fail
    go_ret
    exact ⟨_, rfl, by rw [hf.out]; rfl, HB.out _ _⟩
  by_cases hm0 : m < 0
  · have hf := Lib.hid (show R = false by rw [HR.out, decide_eq_false (show ¬ 0 ≤ m by omega), Bool.and_false]; rfl)
    go_enter Tryz.func29, Tryz.ntmps29
    go_wp2_with fail
    go_ret
    exact ⟨_, rfl, by rw [hf.out]; rfl, HB.out _ _⟩
  by_cases hm1 : 2047 < m
  · have hf := Lib.hid (show R = false by rw [HR.out, decide_eq_false (show ¬ m ≤ 2047 by omega), Bool.and_false]; rfl)
    go_enter Tryz.func29, Tryz.ntmps29
    go_wp2_with fail
    go_ret
    exact ⟨_, rfl, by rw [hf.out]; rfl, HB.out _ _⟩
  have HR2 := Lib.hid (HR.out)
  rw [decide_eq_true (show 1 ≤ k by omega), decide_eq_true (show k ≤ 4 by omega), decide_eq_true (show 0 ≤ m by omega), decide_eq_true (show m ≤ 2047 by omega)] at HR2
  clear HR
  have HR := HR2
  clear HR2
  by_cases h0 : 65536 < s.size
  · have h0z : (65536 : Int) < (s.size : Int) := by omega
    have hf := Lib.hid (show R = false by rw [HR.out]; simp [h0])
    clear h0
    by_cases h4 : k = 4
    · subst h4
      go_enter Tryz.func29, Tryz.ntmps29
      go_wp2_with fail
      go_ret
      exact ⟨_, rfl, by rw [hf.out]; rfl, HB.out _ _⟩
    · have h4b : (k == 4) = false := beq_eq_false_iff_ne.2 h4
      go_enter Tryz.func29, Tryz.ntmps29
      go_wp2_with fail
      go_ret
      exact ⟨_, rfl, by rw [hf.out]; rfl, HB.out _ _⟩
  have h0z : ¬ (65536 : Int) < (s.size : Int) := by omega
  have HR2 := Lib.hid (HR.out)
  rw [decide_eq_false h0] at HR2
  clear HR
  have HR := HR2
  clear HR2 h0
  by_cases h3 : k = 3
  · subst h3
    by_cases h2 : 256 < s.size
    · have h2z : (256 : Int) < (s.size : Int) := by omega
      have hf := Lib.hid (show R = false by rw [HR.out]; simp [h2])
      go_enter Tryz.func29, Tryz.ntmps29
      go_wp2_with fail
      go_ret
      exact ⟨_, rfl, by rw [hf.out]; rfl, HB.out _ _⟩
    have h2z : ¬ (256 : Int) < (s.size : Int) := by omega
    cases be with
    | true =>
      have hf := Lib.hid (show R = false by rw [HR.out]; simp)
      go_enter Tryz.func29, Tryz.ntmps29
      go_wp2_with fail
      refine (HX.out _).mono ?_
      rintro e w1 ⟨rfl, rfl⟩
      go_wp2_with fail
      go_ret
      exact ⟨_, rfl, by rw [hf.out]; rfl, HB.out _ _⟩
    | false =>
      cases bz with
      | true =>
        have hf := Lib.hid (show R = false by rw [HR.out]; simp [h2])
        have hz4 : 0 ≤ z := by simpa using hz2
        go_enter Tryz.func29, Tryz.ntmps29
        go_wp2_with fail
        refine (HX.out _).mono ?_
        rintro e w1 ⟨rfl, rfl⟩
        go_wp2_with fail
        go_ret
        exact ⟨_, rfl, by rw [hf.out]; rfl, HB.out _ _⟩
      | false =>
        have hf := Lib.hid (show R = true by rw [HR.out]; simp [h2])
        have hz4 : z < 0 := by simpa using hz2
        go_enter Tryz.func29, Tryz.ntmps29
        go_wp2_with fail
        refine (HX.out _).mono ?_
        rintro e w1 ⟨rfl, rfl⟩
        go_wp2_with fail
        go_ret
        exact ⟨_, rfl, by rw [hf.out]; rfl, HB.out _ _⟩
  by_cases h4 : k = 4
  · subst h4
    cases bn with
    | false =>
      have hf := Lib.hid (show R = false by rw [HR.out]; simp)
      go_enter Tryz.func29, Tryz.ntmps29
      go_wp2_with fail
      refine (HX.out _).mono ?_
      rintro e w1 ⟨rfl, rfl⟩
      go_wp2_with fail
      refine (HI.out _).mono ?_
      rintro e w1 ⟨rfl, rfl⟩
      go_wp2_with fail
      go_ret
      exact ⟨_, rfl, by rw [hf.out]; rfl, HB.out _ _⟩
    | true =>
      cases bz with
      | true =>
        have hf := Lib.hid (show R = false by rw [HR.out]; simp)
        have hz4 : 0 ≤ z := by simpa using hz2
        go_enter Tryz.func29, Tryz.ntmps29
        go_wp2_with fail
        refine (HX.out _).mono ?_
        rintro e w1 ⟨rfl, rfl⟩
        go_wp2_with fail
        refine (HI.out _).mono ?_
        rintro e w1 ⟨rfl, rfl⟩
        go_wp2_with fail
        go_ret
        exact ⟨_, rfl, by rw [hf.out]; rfl, HB.out _ _⟩
      | false =>
        have hz4 : z < 0 := by simpa using hz2
        by_cases h64 : s.size ≤ 64
        · have h64z : ¬ (64 : Int) < (s.size : Int) := by omega
          cases bc with
          | true =>
            have hf := Lib.hid (show R = false by rw [HR.out]; simp [h64])
            go_enter Tryz.func29, Tryz.ntmps29
            go_wp2_with fail
            refine (HX.out _).mono ?_
            rintro e w1 ⟨rfl, rfl⟩
            go_wp2_with fail
            refine (HI.out _).mono ?_
            rintro e w1 ⟨rfl, rfl⟩
            go_wp2_with fail
            refine (HC.out _).mono ?_
            rintro e w1 ⟨rfl, rfl⟩
            go_wp2_with fail
            go_ret
            exact ⟨_, rfl, by rw [hf.out]; rfl, HB.out _ _⟩
          | false =>
            have hf := Lib.hid (show R = true by rw [HR.out]; simp [h64])
            go_enter Tryz.func29, Tryz.ntmps29
            go_wp2_with fail
            refine (HX.out _).mono ?_
            rintro e w1 ⟨rfl, rfl⟩
            go_wp2_with fail
            refine (HI.out _).mono ?_
            rintro e w1 ⟨rfl, rfl⟩
            go_wp2_with fail
            refine (HC.out _).mono ?_
            rintro e w1 ⟨rfl, rfl⟩
            go_wp2_with fail
            go_ret
            exact ⟨_, rfl, by rw [hf.out]; rfl, HB.out _ _⟩
        · have h64z : (64 : Int) < (s.size : Int) := by omega
          have hf := Lib.hid (show R = false by rw [HR.out]; simp [h64])
          go_enter Tryz.func29, Tryz.ntmps29
          go_wp2_with fail
          refine (HX.out _).mono ?_
          rintro e w1 ⟨rfl, rfl⟩
          go_wp2_with fail
          refine (HI.out _).mono ?_
          rintro e w1 ⟨rfl, rfl⟩
          go_wp2_with fail
          go_ret
          exact ⟨_, rfl, by rw [hf.out]; rfl, HB.out _ _⟩
  by_cases h2 : k = 2
  · subst h2
    cases be with
    | true =>
      have hf := Lib.hid (show R = true by rw [HR.out]; simp)
      go_enter Tryz.func29, Tryz.ntmps29
      go_wp2_with fail
      refine (HX.out _).mono ?_
      rintro e w1 ⟨rfl, rfl⟩
      go_wp2_with fail
      go_ret
      exact ⟨_, rfl, by rw [hf.out]; rfl, HB.out _ _⟩
    | false =>
      have hf := Lib.hid (show R = false by rw [HR.out]; simp)
      go_enter Tryz.func29, Tryz.ntmps29
      go_wp2_with fail
      refine (HX.out _).mono ?_
      rintro e w1 ⟨rfl, rfl⟩
      go_wp2_with fail
      go_ret
      exact ⟨_, rfl, by rw [hf.out]; rfl, HB.out _ _⟩
  obtain rfl : k = 1 := by omega
  have hf := Lib.hid (show R = true by rw [HR.out]; simp)
  go_enter Tryz.func29, Tryz.ntmps29
  go_wp2_with fail
  refine (HX.out _).mono ?_
  rintro e w1 ⟨rfl, rfl⟩
  go_wp2_with fail
  go_ret
  exact ⟨_, rfl, by rw [hf.out]; rfl, HB.out _ _⟩
def plainB (e : FE) : Bool := (decide (e.kind ≠ 3) || decide (e.mode = 511)) && goodB e.user e.group && decide (0 ≤ e.changed) && decide (e.changed ≤ 1099511627776) && formB e.kind e.mode e.text
theorem badB_not (n : Int) : (!badB n) = (decide (0 ≤ n) && decide (n ≤ 2147483647)) := by
  unfold badB
  rw [Bool.eq_iff_iff]
  simp only [Bool.not_eq_true', Bool.or_eq_false_iff, decide_eq_false_iff_not, Bool.and_eq_true, decide_eq_true_eq]
  omega
theorem plainB_right (e : FE) (h : e.same = noneB) : rightB e = plainB e := by
  unfold rightB plainB goodB formB
  rw [if_neg (by rw [h]; simp), badB_not, badB_not]
  ac_rfl
set_option maxRecDepth 100000 in
set_option maxHeartbeats 1600000 in
theorem plain_any (e : FE) (w : World) (hs : e.text.size ≤ maxLen) :
    Calls Tryz.prog 10 #[feV e] w fun r w' => r = .returned (.bool (plainB e)) ∧ Below w.heap.size w w' := by
  have HG := Lib.hid (fun W => goodCred_any e.user e.group W)
  have HF := Lib.hid (fun W => makeForm_any e.kind e.mode e.text W hs)
  obtain ⟨R, hR⟩ : ∃ R, R = plainB e := ⟨_, rfl⟩
  rw [← hR]
  unfold plainB at hR
  generalize goodB e.user e.group = bg at HG hR
  generalize formB e.kind e.mode e.text = bf at HF hR
  have HR := Lib.hid hR
  clear hR
  obtain ⟨x, hx⟩ : ∃ x, x = w.heap.size := ⟨_, rfl⟩
  obtain ⟨W0, hW0⟩ : ∃ z, z = w.alloc (.cells #[.string e.path, .int .i64 e.kind, .int .i64 e.mode, .int .i64 e.user, .int .i64 e.group, .string e.text, .int .i64 e.changed, .string e.same] 33) := ⟨_, rfl⟩
  have HB0 : Hid (Below w.heap.size w W0) := Lib.hid (by rw [hW0]; exact (Below.refl _ w).alloc (Nat.le_refl _) _)
  have HX : Hid (FeAt W0 x e) := Lib.hid (by rw [hW0, hx]; exact heap_alloc_new w _)
  have HWE := Lib.hid hW0
  have HXE := Lib.hid hx
  obtain ⟨x0, x1, x2, x3, x4, x5, x6, x7⟩ := HX.out.cells
  obtain ⟨p, k, m, u, g, t, c, sm⟩ := e
  dsimp only at *
  clear hW0 hx
  by_cases h3 : k = 3
  · by_cases hm : m = 511
    · have HR2 : Hid (R = (bg && decide (0 ≤ c) && decide (c ≤ 1099511627776) && bf)) := Lib.hid (by rw [HR.out, decide_eq_true hm]; simp)
      clear HR
      subst h3 hm
      cases bg with
      | false =>
        have hf := Lib.hid (show R = false by rw [HR2.out]; rfl)
        go_enter Tryz.func10, Tryz.ntmps10
        go_upto_region 1 with fail
        rw [← HXE.out, ← HWE.out]
        go_wp2_with fail
        refine (HG.out _).mono ?_
        rintro r w1 ⟨rfl, hb1⟩
        have HB1 : Hid (Below w.heap.size w w1) := Lib.hid (HB0.out.trans (hb1.mono HB0.out.size))
        obtain ⟨_, y1, y2, _, _, y5, y6, _⟩ := (HX.out.keep hb1).cells
        clear hb1 x0 x1 x2 x3 x4 x5 x6 x7
        go_wp2_with fail
        go_ret
        exact ⟨ret_bool hf.out.symm, HB1.out⟩
      | true =>
        by_cases hc0 : 0 ≤ c
        · by_cases hc1 : c ≤ 1099511627776
          · have hf := Lib.hid (show R = bf by rw [HR2.out, decide_eq_true hc0, decide_eq_true hc1]; simp)
            go_enter Tryz.func10, Tryz.ntmps10
            go_upto_region 1 with fail
            rw [← HXE.out, ← HWE.out]
            go_wp2_with fail
            refine (HG.out _).mono ?_
            rintro r w1 ⟨rfl, hb1⟩
            have HB1 : Hid (Below w.heap.size w w1) := Lib.hid (HB0.out.trans (hb1.mono HB0.out.size))
            obtain ⟨_, y1, y2, _, _, y5, y6, _⟩ := (HX.out.keep hb1).cells
            clear hb1 x0 x1 x2 x3 x4 x5 x6 x7
            go_wp2_with fail
            refine (HF.out _).mono ?_
            rintro r w2 ⟨c0, rfl, hcode, hb2⟩
            have HB2 : Hid (Below w.heap.size w w2) := Lib.hid (HB1.out.trans (hb2.mono HB1.out.size))
            have HCD := Lib.hid hcode
            clear hb2 hcode
            go_wp2_with fail
            go_ret
            exact ⟨ret_bool (by rw [hf.out, ← HCD.out]; first | rfl | simp), HB2.out⟩
          · have hf := Lib.hid (show R = false by rw [HR2.out, decide_eq_true hc0, decide_eq_false hc1]; rfl)
            go_enter Tryz.func10, Tryz.ntmps10
            go_upto_region 1 with fail
            rw [← HXE.out, ← HWE.out]
            go_wp2_with fail
            refine (HG.out _).mono ?_
            rintro r w1 ⟨rfl, hb1⟩
            have HB1 : Hid (Below w.heap.size w w1) := Lib.hid (HB0.out.trans (hb1.mono HB0.out.size))
            obtain ⟨_, y1, y2, _, _, y5, y6, _⟩ := (HX.out.keep hb1).cells
            clear hb1 x0 x1 x2 x3 x4 x5 x6 x7
            go_wp2_with fail
            go_ret
            exact ⟨ret_bool hf.out.symm, HB1.out⟩
        · have hf := Lib.hid (show R = false by rw [HR2.out, decide_eq_false hc0]; rfl)
          go_enter Tryz.func10, Tryz.ntmps10
          go_upto_region 1 with fail
          rw [← HXE.out, ← HWE.out]
          go_wp2_with fail
          refine (HG.out _).mono ?_
          rintro r w1 ⟨rfl, hb1⟩
          have HB1 : Hid (Below w.heap.size w w1) := Lib.hid (HB0.out.trans (hb1.mono HB0.out.size))
          obtain ⟨_, y1, y2, _, _, y5, y6, _⟩ := (HX.out.keep hb1).cells
          clear hb1 x0 x1 x2 x3 x4 x5 x6 x7
          go_wp2_with fail
          go_ret
          exact ⟨ret_bool hf.out.symm, HB1.out⟩
    · have hf := Lib.hid (show R = false by rw [HR.out, decide_eq_false (show ¬ k ≠ 3 from fun h => h h3), decide_eq_false hm]; rfl)
      have hmb : (m == 511) = false := beq_eq_false_iff_ne.2 hm
      subst h3
      go_enter Tryz.func10, Tryz.ntmps10
      go_upto_region 1 with fail
      rw [← HXE.out, ← HWE.out]
      go_wp2_with fail
      go_ret
      exact ⟨ret_bool hf.out.symm, HB0.out⟩
  · have HR2 : Hid (R = (bg && decide (0 ≤ c) && decide (c ≤ 1099511627776) && bf)) := Lib.hid (by rw [HR.out, decide_eq_true h3]; simp)
    have h3b : (k == 3) = false := beq_eq_false_iff_ne.2 h3
    clear HR
    cases bg with
    | false =>
      have hf := Lib.hid (show R = false by rw [HR2.out]; rfl)
      go_enter Tryz.func10, Tryz.ntmps10
      go_upto_region 1 with fail
      rw [← HXE.out, ← HWE.out]
      go_wp2_with fail
      refine (HG.out _).mono ?_
      rintro r w1 ⟨rfl, hb1⟩
      have HB1 : Hid (Below w.heap.size w w1) := Lib.hid (HB0.out.trans (hb1.mono HB0.out.size))
      obtain ⟨_, y1, y2, _, _, y5, y6, _⟩ := (HX.out.keep hb1).cells
      clear hb1 x0 x1 x2 x3 x4 x5 x6 x7
      go_wp2_with fail
      go_ret
      exact ⟨ret_bool hf.out.symm, HB1.out⟩
    | true =>
      by_cases hc0 : 0 ≤ c
      · by_cases hc1 : c ≤ 1099511627776
        · have hf := Lib.hid (show R = bf by rw [HR2.out, decide_eq_true hc0, decide_eq_true hc1]; simp)
          go_enter Tryz.func10, Tryz.ntmps10
          go_upto_region 1 with fail
          rw [← HXE.out, ← HWE.out]
          go_wp2_with fail
          refine (HG.out _).mono ?_
          rintro r w1 ⟨rfl, hb1⟩
          have HB1 : Hid (Below w.heap.size w w1) := Lib.hid (HB0.out.trans (hb1.mono HB0.out.size))
          obtain ⟨_, y1, y2, _, _, y5, y6, _⟩ := (HX.out.keep hb1).cells
          clear hb1 x0 x1 x2 x3 x4 x5 x6 x7
          go_wp2_with fail
          refine (HF.out _).mono ?_
          rintro r w2 ⟨c0, rfl, hcode, hb2⟩
          have HB2 : Hid (Below w.heap.size w w2) := Lib.hid (HB1.out.trans (hb2.mono HB1.out.size))
          have HCD := Lib.hid hcode
          clear hb2 hcode
          go_wp2_with fail
          go_ret
          exact ⟨ret_bool (by rw [hf.out, ← HCD.out]; first | rfl | simp), HB2.out⟩
        · have hf := Lib.hid (show R = false by rw [HR2.out, decide_eq_true hc0, decide_eq_false hc1]; rfl)
          go_enter Tryz.func10, Tryz.ntmps10
          go_upto_region 1 with fail
          rw [← HXE.out, ← HWE.out]
          go_wp2_with fail
          refine (HG.out _).mono ?_
          rintro r w1 ⟨rfl, hb1⟩
          have HB1 : Hid (Below w.heap.size w w1) := Lib.hid (HB0.out.trans (hb1.mono HB0.out.size))
          obtain ⟨_, y1, y2, _, _, y5, y6, _⟩ := (HX.out.keep hb1).cells
          clear hb1 x0 x1 x2 x3 x4 x5 x6 x7
          go_wp2_with fail
          go_ret
          exact ⟨ret_bool hf.out.symm, HB1.out⟩
      · have hf := Lib.hid (show R = false by rw [HR2.out, decide_eq_false hc0]; rfl)
        go_enter Tryz.func10, Tryz.ntmps10
        go_upto_region 1 with fail
        rw [← HXE.out, ← HWE.out]
        go_wp2_with fail
        refine (HG.out _).mono ?_
        rintro r w1 ⟨rfl, hb1⟩
        have HB1 : Hid (Below w.heap.size w w1) := Lib.hid (HB0.out.trans (hb1.mono HB0.out.size))
        obtain ⟨_, y1, y2, _, _, y5, y6, _⟩ := (HX.out.keep hb1).cells
        clear hb1 x0 x1 x2 x3 x4 x5 x6 x7
        go_wp2_with fail
        go_ret
        exact ⟨ret_bool hf.out.symm, HB1.out⟩
end Go.Proofs.YtclhdppepopgeaaGreatDoor
