/- The tree's lists: what an entry's parts may be: names, texts, numbers. -/
import Derived.Test.YtclhdppepopgeaaGreatDoorTrAny
import Derived.Test.YtclhdppepopgeaaGreatDoorTrLaw
namespace Go.Proofs.YtclhdppepopgeaaGreatDoor
open Go.RowKit

abbrev bl (s : ByteArray) : List UInt8 := s.data.toList
theorem indexAny_neg (l cs : List UInt8) : Lib.indexAny l cs < 0 ↔ ∀ c ∈ l, cs.contains c = false := by
  induction l with
  | nil => simp [Lib.indexAny]
  | cons b r ih =>
    have hge := Lib.indexAny_ge cs r
    cases hb : cs.contains b
    · rw [Lib.indexAny, if_neg (by rw [hb]; exact Bool.false_ne_true)]
      constructor
      · intro h c hc
        rcases List.mem_cons.1 hc with rfl | hc
        · exact hb
        · refine ih.1 ?_ c hc
          split at h
          · rename_i he; have := beq_iff_eq.1 he; omega
          · omega
      · intro h
        have := ih.2 fun c hc => h c (List.mem_cons_of_mem _ hc)
        rw [if_pos (by rw [beq_iff_eq]; omega)]; omega
    · rw [Lib.indexAny, if_pos hb]
      constructor
      · intro h; omega
      · intro h; have := h b (by simp); rw [hb] at this; cases this
/-- a text without the bytes 0 and 47 -/
theorem clean_eq (l : List UInt8) : cleanB l = (!l.contains 0 && !l.contains 47) := by
  unfold cleanB
  rw [Bool.eq_iff_iff, decide_eq_true_iff, indexAny_neg]
  simp only [Bool.and_eq_true, Bool.not_eq_true', List.contains_eq_mem, decide_eq_false_iff_not]
  constructor
  · intro h
    exact ⟨fun hc => by have := h 0 hc; revert this; decide, fun hc => by have := h 47 hc; revert this; decide⟩
  · rintro ⟨h0, h1⟩ c hc
    intro hm
    have hm2 : c ∈ ([0, 47] : List UInt8) := hm
    simp only [List.mem_cons, List.not_mem_nil, or_false] at hm2
    rcases hm2 with rfl | rfl
    · exact h0 hc
    · exact h1 hc
theorem beq_dec (a b : ByteArray) : (a.toList == b.toList) = decide (a = b) := by
  rw [ByteArray.toList_eq, ByteArray.toList_eq, Bool.eq_iff_iff, beq_iff_eq, decide_eq_true_iff]
  exact ⟨fun h => ByteArray.ext (Array.toList_inj.1 h), fun h => by rw [h]⟩

set_option maxHeartbeats 800000 in
theorem within_b (n low high : Int) (w : World) : Calls Tryz.prog 36 #[.int .i64 n, .int .i64 low, .int .i64 high] w fun e w' => e = .returned (.bool (decide (low ≤ n) && decide (n ≤ high))) ∧ w' = w := by
  by_cases h1 : low ≤ n
  · have hf := Lib.hid (show (decide (low ≤ n) && decide (n ≤ high)) = decide (n ≤ high) by simp [h1])
    go_enter Tryz.func36, Tryz.ntmps36
    go_wp2_with fail
    go_ret
    exact ⟨ret_bool hf.out.symm, rfl⟩
  · have hf := Lib.hid (show (decide (low ≤ n) && decide (n ≤ high)) = false by rw [decide_eq_false h1]; rfl)
    go_enter Tryz.func36, Tryz.ntmps36
    go_wp2_with fail
    go_ret
    exact ⟨ret_bool hf.out.symm, rfl⟩
set_option maxRecDepth 100000 in
set_option maxHeartbeats 1600000 in
theorem isName_any (s : ByteArray) (w : World) (hs : s.size ≤ maxLen) :
    Calls Tryz.prog 40 #[.string s] w fun e w' => e = .returned (.bool (nameOk s)) ∧ Below w.heap.size w w' := by
  have HW := Lib.hid (fun W => within_b (s.size : Int) 1 64 W)
  have HC := Lib.hid (fun W => containsAny_any s W hs)
  have HN : Hid (nameOk s = (decide ((1 : Int) ≤ s.size) && decide ((s.size : Int) ≤ 64) && cleanB (bl s) && decide (s ≠ ⟨#[46]⟩) && decide (s ≠ ⟨#[46, 46]⟩))) := Lib.hid (by
    unfold nameOk
    rw [clean_eq]
    have e1 : decide (1 ≤ s.size) = decide ((1 : Int) ≤ s.size) := decide_eq_decide.2 (by omega)
    have e2 : decide (s.size ≤ 64) = decide ((s.size : Int) ≤ 64) := decide_eq_decide.2 (by omega)
    rw [e1, e2]
    simp only [Bool.and_assoc])
  have e3 : (s.toList == [46]) = decide (s = ⟨#[46]⟩) := by rw [← beq_dec, ByteArray.toList_eq ⟨#[46]⟩]
  have e4 : (s.toList == [46, 46]) = decide (s = ⟨#[46, 46]⟩) := by rw [← beq_dec, ByteArray.toList_eq ⟨#[46, 46]⟩]
  obtain ⟨b1, hb1⟩ : ∃ b, b = (decide ((1 : Int) ≤ s.size) && decide ((s.size : Int) ≤ 64)) := ⟨_, rfl⟩
  rw [← hb1] at HW HN
  obtain ⟨b2, hb2⟩ : ∃ b, b = cleanB (bl s) := ⟨_, rfl⟩
  rw [← hb2] at HN
  have hb2' : cleanB s.data.toList = b2 := hb2.symm
  rw [hb2'] at HC
  obtain ⟨R, hR⟩ : ∃ R, R = nameOk s := ⟨_, rfl⟩
  rw [← hR] at HN ⊢
  clear hb1 hb2 hb2' hR
  cases b1 with
  | false =>
    have hf := Lib.hid (show R = false by rw [HN.out]; rfl)
    go_enter Tryz.func40, Tryz.ntmps40
    go_wp2_with fail
    refine (HW.out _).mono ?_
    rintro e w1 ⟨rfl, rfl⟩
    go_wp2_with fail
    go_ret
    exact ⟨ret_bool hf.out.symm, Below.refl _ _⟩
  | true =>
    cases b2 with
    | false =>
      have hf := Lib.hid (show R = false by rw [HN.out]; rfl)
      go_enter Tryz.func40, Tryz.ntmps40
      go_wp2_with fail
      refine (HW.out _).mono ?_
      rintro e w1 ⟨rfl, rfl⟩
      go_wp2_with fail
      refine (HC.out _).mono ?_
      rintro e w2 ⟨rfl, hb⟩
      have HB := Lib.hid hb
      clear hb
      go_wp2_with fail
      go_ret
      exact ⟨ret_bool hf.out.symm, HB.out⟩
    | true =>
      by_cases h1 : s = ⟨#[46]⟩
      · have hf := Lib.hid (show R = false by rw [HN.out, h1]; rfl)
        rw [decide_eq_true h1] at e3
        clear h1 e4
        go_enter Tryz.func40, Tryz.ntmps40
        go_wp2_with fail
        refine (HW.out _).mono ?_
        rintro e w1 ⟨rfl, rfl⟩
        go_wp2_with fail
        refine (HC.out _).mono ?_
        rintro e w2 ⟨rfl, hb⟩
        have HB := Lib.hid hb
        clear hb
        go_wp2_with fail
        go_ret
        exact ⟨ret_bool hf.out.symm, HB.out⟩
      · have hf := Lib.hid (show R = decide (s ≠ ⟨#[46, 46]⟩) by rw [HN.out, decide_eq_true h1]; rfl)
        rw [decide_eq_false h1] at e3
        clear h1
        by_cases h2 : s = ⟨#[46, 46]⟩
        · have hf2 := Lib.hid (show R = false by rw [hf.out]; simp [h2])
          rw [decide_eq_true h2] at e4
          clear h2
          go_enter Tryz.func40, Tryz.ntmps40
          go_wp2_with fail
          refine (HW.out _).mono ?_
          rintro e w1 ⟨rfl, rfl⟩
          go_wp2_with fail
          refine (HC.out _).mono ?_
          rintro e w2 ⟨rfl, hb⟩
          have HB := Lib.hid hb
          clear hb
          go_wp2_with fail
          go_ret
          exact ⟨ret_bool hf2.out.symm, HB.out⟩
        · have hf2 := Lib.hid (show R = true by rw [hf.out]; simp [h2])
          rw [decide_eq_false h2] at e4
          clear h2
          go_enter Tryz.func40, Tryz.ntmps40
          go_wp2_with fail
          refine (HW.out _).mono ?_
          rintro e w1 ⟨rfl, rfl⟩
          go_wp2_with fail
          refine (HC.out _).mono ?_
          rintro e w2 ⟨rfl, hb⟩
          have HB := Lib.hid hb
          clear hb
          go_wp2_with fail
          go_ret
          exact ⟨ret_bool hf2.out.symm, HB.out⟩
end Go.Proofs.YtclhdppepopgeaaGreatDoor
