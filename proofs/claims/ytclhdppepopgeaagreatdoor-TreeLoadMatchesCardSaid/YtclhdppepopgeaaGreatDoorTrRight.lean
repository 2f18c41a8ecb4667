/- The tree's lists: whether an entry is right by itself. (Printed by tools/gtright.py.) -/
import Derived.Test.YtclhdppepopgeaaGreatDoorTrText
namespace Go.Proofs.YtclhdppepopgeaaGreatDoor
open Go.RowKit

set_option maxRecDepth 100000 in
set_option maxHeartbeats 3200000 in
theorem right_same (e : FE) (w : World) (hs : e.same ≠ noneB) :
    Calls Tryz.prog 20 #[feV e] w fun r w' => r = .returned (.bool (rightB e)) ∧ Below w.heap.size w w' := by
  obtain ⟨x, hx⟩ : ∃ x, x = w.heap.size := ⟨_, rfl⟩
  obtain ⟨W0, hW0⟩ : ∃ z, z = w.alloc (.cells #[.string e.path, .int .i64 e.kind, .int .i64 e.mode, .int .i64 e.user, .int .i64 e.group, .string e.text, .int .i64 e.changed, .string e.same] 33) := ⟨_, rfl⟩
  have HB0 : Hid (Below w.heap.size w W0) := Lib.hid (by rw [hW0]; exact (Below.refl _ w).alloc (Nat.le_refl _) _)
  have HX : Hid (FeAt W0 x e) := Lib.hid (by rw [hW0, hx]; exact heap_alloc_new w _)
  have HWE := Lib.hid hW0
  have HXE := Lib.hid hx
  obtain ⟨x0, x1, x2, x3, x4, x5, x6, x7⟩ := HX.out.cells
  have hemp : (e.same.toList == []) = false := by rw [empty_dec, decide_eq_false hs]
  obtain ⟨R, hR⟩ : ∃ R, R = rightB e := ⟨_, rfl⟩
  rw [← hR]
  have HR : Hid (R = (decide (e.kind = 0) && (decide (e.mode = 0) && (decide (e.user = 0) && (decide (e.group = 0) && (decide (e.text = noneB) && decide (e.changed = 0))))))) := Lib.hid (by
    rw [hR]
    unfold rightB
    rw [if_pos hs, Bool.eq_iff_iff]
    simp only [Bool.and_eq_true, decide_eq_true_eq]
    constructor
    · intro h
      rw [h]
      exact ⟨rfl, rfl, rfl, rfl, rfl, rfl⟩
    · rintro ⟨h2, h3, h4, h5, h6, h7⟩
      obtain ⟨p, k, m, u, g, t, c, s⟩ := e
      dsimp only at h2 h3 h4 h5 h6 h7 ⊢
      subst h2 h3 h4 h5 h6 h7
      rfl)
  obtain ⟨p, k, m, u, g, t, c, s⟩ := e
  dsimp only at *
  clear hR hW0 hx hs
  by_cases hk : k = 0
  · subst hk
    by_cases hm : m = 0
    · subst hm
      by_cases hu : u = 0
      · subst hu
        by_cases hg : g = 0
        · subst hg
          by_cases ht : t = noneB
          · have htb : (t.toList == []) = true := by rw [empty_dec, decide_eq_true ht]
            have HR2 := HR
            rw [decide_eq_true ht] at HR2
            clear HR
            have HR := HR2
            clear HR2 ht
            by_cases hc : c = 0
            · subst hc
              have hf := Lib.hid (show R = true by rw [HR.out]; rfl)
              go_enter Tryz.func20, Tryz.ntmps20
              go_upto_region 1 with fail
              rw [← HXE.out, ← HWE.out]
              go_wp2_with fail
              go_ret
              exact ⟨ret_bool hf.out.symm, HB0.out⟩
            · have hcb : (c == 0) = false := beq_eq_false_iff_ne.2 hc
              have hf := Lib.hid (show R = false by rw [HR.out]; simp [hc])
              go_enter Tryz.func20, Tryz.ntmps20
              go_upto_region 1 with fail
              rw [← HXE.out, ← HWE.out]
              go_wp2_with fail
              go_ret
              exact ⟨ret_bool hf.out.symm, HB0.out⟩
          · have htb : (t.toList == []) = false := by rw [empty_dec, decide_eq_false ht]
            have hf := Lib.hid (show R = false by rw [HR.out]; simp [ht])
            clear ht
            go_enter Tryz.func20, Tryz.ntmps20
            go_upto_region 1 with fail
            rw [← HXE.out, ← HWE.out]
            go_wp2_with fail
            go_ret
            exact ⟨ret_bool hf.out.symm, HB0.out⟩
        · have hgb : (g == 0) = false := beq_eq_false_iff_ne.2 hg
          have hf := Lib.hid (show R = false by rw [HR.out]; simp [hg])
          go_enter Tryz.func20, Tryz.ntmps20
          go_upto_region 1 with fail
          rw [← HXE.out, ← HWE.out]
          go_wp2_with fail
          go_ret
          exact ⟨ret_bool hf.out.symm, HB0.out⟩
      · have hub : (u == 0) = false := beq_eq_false_iff_ne.2 hu
        have hf := Lib.hid (show R = false by rw [HR.out]; simp [hu])
        go_enter Tryz.func20, Tryz.ntmps20
        go_upto_region 1 with fail
        rw [← HXE.out, ← HWE.out]
        go_wp2_with fail
        go_ret
        exact ⟨ret_bool hf.out.symm, HB0.out⟩
    · have hmb : (m == 0) = false := beq_eq_false_iff_ne.2 hm
      have hf := Lib.hid (show R = false by rw [HR.out]; simp [hm])
      go_enter Tryz.func20, Tryz.ntmps20
      go_upto_region 1 with fail
      rw [← HXE.out, ← HWE.out]
      go_wp2_with fail
      go_ret
      exact ⟨ret_bool hf.out.symm, HB0.out⟩
  · have hkb : (k == 0) = false := beq_eq_false_iff_ne.2 hk
    have hf := Lib.hid (show R = false by rw [HR.out]; simp [hk])
    go_enter Tryz.func20, Tryz.ntmps20
    go_upto_region 1 with fail
    rw [← HXE.out, ← HWE.out]
    go_wp2_with fail
    go_ret
    exact ⟨ret_bool hf.out.symm, HB0.out⟩

set_option maxRecDepth 100000 in
set_option maxHeartbeats 6400000 in
theorem right_plain (e : FE) (w : World) (hs : e.same = noneB) (ht : e.text.size ≤ maxLen) :
    Calls Tryz.prog 20 #[feV e] w fun r w' => r = .returned (.bool (rightB e)) ∧ Below w.heap.size w w' := by
  obtain ⟨x, hx⟩ : ∃ x, x = w.heap.size := ⟨_, rfl⟩
  obtain ⟨W0, hW0⟩ : ∃ z, z = w.alloc (.cells #[.string e.path, .int .i64 e.kind, .int .i64 e.mode, .int .i64 e.user, .int .i64 e.group, .string e.text, .int .i64 e.changed, .string e.same] 33) := ⟨_, rfl⟩
  have HB0 : Hid (Below w.heap.size w W0) := Lib.hid (by rw [hW0]; exact (Below.refl _ w).alloc (Nat.le_refl _) _)
  have HX : Hid (FeAt W0 x e) := Lib.hid (by rw [hW0, hx]; exact heap_alloc_new w _)
  have HWE := Lib.hid hW0
  have HXE := Lib.hid hx
  obtain ⟨x0, x1, x2, x3, x4, x5, x6, x7⟩ := HX.out.cells
  have hemp : (e.same.toList == []) = true := by rw [empty_dec, decide_eq_true hs]
  have HW1 := Lib.hid (fun W => within_b e.kind 1 4 W)
  have HW2 := Lib.hid (fun W => within_b e.user 0 2147483647 W)
  have HW3 := Lib.hid (fun W => within_b e.group 0 2147483647 W)
  have HW4 := Lib.hid (fun W => within_b e.mode 0 2047 W)
  have HW5 := Lib.hid (fun W => within_b e.changed 0 1099511627776 W)
  have HTX := Lib.hid (fun W => textFor_any e.kind e.text W ht)
  obtain ⟨R, hR⟩ : ∃ R, R = rightB e := ⟨_, rfl⟩
  rw [← hR]
  have HR : Hid (R = ((decide (1 ≤ e.kind) && decide (e.kind ≤ 4)) && ((decide (0 ≤ e.user) && decide (e.user ≤ 2147483647)) && ((decide (0 ≤ e.group) && decide (e.group ≤ 2147483647)) && ((decide (0 ≤ e.mode) && decide (e.mode ≤ 2047)) && ((decide (e.kind ≠ 3) || decide (e.mode = 511)) && ((decide (0 ≤ e.changed) && decide (e.changed ≤ 1099511627776)) && textOk e.kind e.text))))))) := Lib.hid (by
    rw [hR]
    unfold rightB
    rw [if_neg (by rw [hs]; simp)]
    simp only [Bool.and_assoc])
  obtain ⟨p, k, m, u, g, t, c, s⟩ := e
  dsimp only at *
  obtain ⟨b1, h1⟩ : ∃ b, b = (decide (1 ≤ k) && decide (k ≤ 4)) := ⟨_, rfl⟩
  obtain ⟨b2, h2⟩ : ∃ b, b = (decide (0 ≤ u) && decide (u ≤ 2147483647)) := ⟨_, rfl⟩
  obtain ⟨b3, h3⟩ : ∃ b, b = (decide (0 ≤ g) && decide (g ≤ 2147483647)) := ⟨_, rfl⟩
  obtain ⟨b4, h4⟩ : ∃ b, b = (decide (0 ≤ m) && decide (m ≤ 2047)) := ⟨_, rfl⟩
  obtain ⟨b5, h5⟩ : ∃ b, b = (decide (0 ≤ c) && decide (c ≤ 1099511627776)) := ⟨_, rfl⟩
  obtain ⟨b6, h6⟩ : ∃ b, b = textOk k t := ⟨_, rfl⟩
  rw [← h1] at HW1 HR
  rw [← h2] at HW2 HR
  rw [← h3] at HW3 HR
  rw [← h4] at HW4 HR
  rw [← h5] at HW5 HR
  rw [← h6] at HTX HR
  clear hR hW0 hx hs ht h1 h2 h3 h4 h5 h6
  cases b1 with
  | false =>
    have hf := Lib.hid (show R = false by rw [HR.out]; simp)
    go_enter Tryz.func20, Tryz.ntmps20
    go_upto_region 1 with fail
    rw [← HXE.out, ← HWE.out]
    go_wp2_with fail
    refine (HW1.out _).mono ?_
    rintro e w1 ⟨rfl, hw1⟩
    rw [hw1]
    clear hw1
    go_wp2_with fail
    go_ret
    exact ⟨ret_bool hf.out.symm, HB0.out⟩
  | true =>
    cases b2 with
    | false =>
      have hf := Lib.hid (show R = false by rw [HR.out]; simp)
      go_enter Tryz.func20, Tryz.ntmps20
      go_upto_region 1 with fail
      rw [← HXE.out, ← HWE.out]
      go_wp2_with fail
      refine (HW1.out _).mono ?_
      rintro e w1 ⟨rfl, hw1⟩
      rw [hw1]
      clear hw1
      go_wp2_with fail
      refine (HW2.out _).mono ?_
      rintro e w1 ⟨rfl, hw1⟩
      rw [hw1]
      clear hw1
      go_wp2_with fail
      go_ret
      exact ⟨ret_bool hf.out.symm, HB0.out⟩
    | true =>
      cases b3 with
      | false =>
        have hf := Lib.hid (show R = false by rw [HR.out]; simp)
        go_enter Tryz.func20, Tryz.ntmps20
        go_upto_region 1 with fail
        rw [← HXE.out, ← HWE.out]
        go_wp2_with fail
        refine (HW1.out _).mono ?_
        rintro e w1 ⟨rfl, hw1⟩
        rw [hw1]
        clear hw1
        go_wp2_with fail
        refine (HW2.out _).mono ?_
        rintro e w1 ⟨rfl, hw1⟩
        rw [hw1]
        clear hw1
        go_wp2_with fail
        refine (HW3.out _).mono ?_
        rintro e w1 ⟨rfl, hw1⟩
        rw [hw1]
        clear hw1
        go_wp2_with fail
        go_ret
        exact ⟨ret_bool hf.out.symm, HB0.out⟩
      | true =>
        cases b4 with
        | false =>
          have hf := Lib.hid (show R = false by rw [HR.out]; simp)
          go_enter Tryz.func20, Tryz.ntmps20
          go_upto_region 1 with fail
          rw [← HXE.out, ← HWE.out]
          go_wp2_with fail
          refine (HW1.out _).mono ?_
          rintro e w1 ⟨rfl, hw1⟩
          rw [hw1]
          clear hw1
          go_wp2_with fail
          refine (HW2.out _).mono ?_
          rintro e w1 ⟨rfl, hw1⟩
          rw [hw1]
          clear hw1
          go_wp2_with fail
          refine (HW3.out _).mono ?_
          rintro e w1 ⟨rfl, hw1⟩
          rw [hw1]
          clear hw1
          go_wp2_with fail
          refine (HW4.out _).mono ?_
          rintro e w1 ⟨rfl, hw1⟩
          rw [hw1]
          clear hw1
          go_wp2_with fail
          go_ret
          exact ⟨ret_bool hf.out.symm, HB0.out⟩
        | true =>
          by_cases hk : k = 3
          · subst hk
            by_cases hm : m = 511
            · subst hm
              have hcd : True := trivial
              cases b5 with
              | false =>
                have hf := Lib.hid (show R = false by rw [HR.out]; simp)
                go_enter Tryz.func20, Tryz.ntmps20
                go_upto_region 1 with fail
                rw [← HXE.out, ← HWE.out]
                go_wp2_with fail
                refine (HW1.out _).mono ?_
                rintro e w1 ⟨rfl, hw1⟩
                rw [hw1]
                clear hw1
                go_wp2_with fail
                refine (HW2.out _).mono ?_
                rintro e w1 ⟨rfl, hw1⟩
                rw [hw1]
                clear hw1
                go_wp2_with fail
                refine (HW3.out _).mono ?_
                rintro e w1 ⟨rfl, hw1⟩
                rw [hw1]
                clear hw1
                go_wp2_with fail
                refine (HW4.out _).mono ?_
                rintro e w1 ⟨rfl, hw1⟩
                rw [hw1]
                clear hw1
                go_wp2_with fail
                refine (HW5.out _).mono ?_
                rintro e w1 ⟨rfl, hw1⟩
                rw [hw1]
                clear hw1
                go_wp2_with fail
                go_ret
                exact ⟨ret_bool hf.out.symm, HB0.out⟩
              | true =>
                have hf := Lib.hid (show R = b6 by rw [HR.out]; simp)
                clear hcd
                go_enter Tryz.func20, Tryz.ntmps20
                go_upto_region 1 with fail
                rw [← HXE.out, ← HWE.out]
                go_wp2_with fail
                refine (HW1.out _).mono ?_
                rintro e w1 ⟨rfl, hw1⟩
                rw [hw1]
                clear hw1
                go_wp2_with fail
                refine (HW2.out _).mono ?_
                rintro e w1 ⟨rfl, hw1⟩
                rw [hw1]
                clear hw1
                go_wp2_with fail
                refine (HW3.out _).mono ?_
                rintro e w1 ⟨rfl, hw1⟩
                rw [hw1]
                clear hw1
                go_wp2_with fail
                refine (HW4.out _).mono ?_
                rintro e w1 ⟨rfl, hw1⟩
                rw [hw1]
                clear hw1
                go_wp2_with fail
                refine (HW5.out _).mono ?_
                rintro e w1 ⟨rfl, hw1⟩
                rw [hw1]
                clear hw1
                go_wp2_with fail
                refine (HTX.out _).mono ?_
                rintro e w2 ⟨q, rfl, hq, hb⟩
                have HB := Lib.hid (HB0.out.trans (hb.mono HB0.out.size))
                have hq2 : (q == 0) = b6 := by rw [← hq, Bool.eq_iff_iff, beq_iff_eq, decide_eq_true_iff]
                clear hb hq
                go_wp2_with fail
                go_ret
                exact ⟨ret_bool hf.out.symm, HB.out⟩
            · have hmb : (m == 511) = false := beq_eq_false_iff_ne.2 hm
              have hf := Lib.hid (show R = false by rw [HR.out]; simp [hm])
              clear hm
              go_enter Tryz.func20, Tryz.ntmps20
              go_upto_region 1 with fail
              rw [← HXE.out, ← HWE.out]
              go_wp2_with fail
              refine (HW1.out _).mono ?_
              rintro e w1 ⟨rfl, hw1⟩
              rw [hw1]
              clear hw1
              go_wp2_with fail
              refine (HW2.out _).mono ?_
              rintro e w1 ⟨rfl, hw1⟩
              rw [hw1]
              clear hw1
              go_wp2_with fail
              refine (HW3.out _).mono ?_
              rintro e w1 ⟨rfl, hw1⟩
              rw [hw1]
              clear hw1
              go_wp2_with fail
              refine (HW4.out _).mono ?_
              rintro e w1 ⟨rfl, hw1⟩
              rw [hw1]
              clear hw1
              go_wp2_with fail
              go_ret
              exact ⟨ret_bool hf.out.symm, HB0.out⟩
          · have hkb : (k != 3) = true := bne_iff_ne.2 hk
            have hkc : (k == 3) = false := beq_eq_false_iff_ne.2 hk
            have hcd : ¬ k = 3 := hk
            clear hk
            cases b5 with
            | false =>
              have hf := Lib.hid (show R = false by rw [HR.out]; simp)
              go_enter Tryz.func20, Tryz.ntmps20
              go_upto_region 1 with fail
              rw [← HXE.out, ← HWE.out]
              go_wp2_with fail
              refine (HW1.out _).mono ?_
              rintro e w1 ⟨rfl, hw1⟩
              rw [hw1]
              clear hw1
              go_wp2_with fail
              refine (HW2.out _).mono ?_
              rintro e w1 ⟨rfl, hw1⟩
              rw [hw1]
              clear hw1
              go_wp2_with fail
              refine (HW3.out _).mono ?_
              rintro e w1 ⟨rfl, hw1⟩
              rw [hw1]
              clear hw1
              go_wp2_with fail
              refine (HW4.out _).mono ?_
              rintro e w1 ⟨rfl, hw1⟩
              rw [hw1]
              clear hw1
              go_wp2_with fail
              refine (HW5.out _).mono ?_
              rintro e w1 ⟨rfl, hw1⟩
              rw [hw1]
              clear hw1
              go_wp2_with fail
              go_ret
              exact ⟨ret_bool hf.out.symm, HB0.out⟩
            | true =>
              have hf := Lib.hid (show R = b6 by rw [HR.out]; simp [hcd])
              clear hcd
              go_enter Tryz.func20, Tryz.ntmps20
              go_upto_region 1 with fail
              rw [← HXE.out, ← HWE.out]
              go_wp2_with fail
              refine (HW1.out _).mono ?_
              rintro e w1 ⟨rfl, hw1⟩
              rw [hw1]
              clear hw1
              go_wp2_with fail
              refine (HW2.out _).mono ?_
              rintro e w1 ⟨rfl, hw1⟩
              rw [hw1]
              clear hw1
              go_wp2_with fail
              refine (HW3.out _).mono ?_
              rintro e w1 ⟨rfl, hw1⟩
              rw [hw1]
              clear hw1
              go_wp2_with fail
              refine (HW4.out _).mono ?_
              rintro e w1 ⟨rfl, hw1⟩
              rw [hw1]
              clear hw1
              go_wp2_with fail
              refine (HW5.out _).mono ?_
              rintro e w1 ⟨rfl, hw1⟩
              rw [hw1]
              clear hw1
              go_wp2_with fail
              refine (HTX.out _).mono ?_
              rintro e w2 ⟨q, rfl, hq, hb⟩
              have HB := Lib.hid (HB0.out.trans (hb.mono HB0.out.size))
              have hq2 : (q == 0) = b6 := by rw [← hq, Bool.eq_iff_iff, beq_iff_eq, decide_eq_true_iff]
              clear hb hq
              go_wp2_with fail
              go_ret
              exact ⟨ret_bool hf.out.symm, HB.out⟩
theorem right_any (e : FE) (w : World) (ht : e.text.size ≤ maxLen) :
    Calls Tryz.prog 20 #[feV e] w fun r w' => r = .returned (.bool (rightB e)) ∧ Below w.heap.size w w' := by
  by_cases hs : e.same = noneB
  · exact right_plain e w hs ht
  · exact right_same e w hs
end Go.Proofs.YtclhdppepopgeaaGreatDoor
