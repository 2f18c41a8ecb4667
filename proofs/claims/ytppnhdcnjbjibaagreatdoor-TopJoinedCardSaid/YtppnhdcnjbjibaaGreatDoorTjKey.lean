/- TopJoined: the key of a line, and how the order compares two lines. -/
import Derived.Test.YtppnhdcnjbjibaaGreatDoorTjFld
namespace Go.Proofs.YtppnhdcnjbjibaaGreatDoor
open Go.RowKit

set_option maxRecDepth 100000 in
set_option maxHeartbeats 3200000 in
theorem begin_any (s : ByteArray) (f m : Int) (w : World) :
    Calls Tryz.prog 111 #[.string s, .agg #[.int .i64 f, .int .i64 m], .bool false] w fun e w' => e = .returned (.int .i64 f) ∧ Below w.heap.size w w' := by
  have HB := Lib.hid ((Below.refl _ w).alloc (Nat.le_refl _) (.cells #[.int .i64 f, .int .i64 m] 155))
  go_enter Tryz.func111, Tryz.ntmps111
  go_wp2_with fail
  go_loopw [7] (fun s7 wr => s7 = .int .i64 f ∧ Hid (Below w.heap.size w wr)) (fun _ _ => 0)
  case atStart => exact ⟨rfl, HB⟩
  case round =>
    obtain ⟨rfl, HBR⟩ := hrel
    go_wp2_with fail
    go_ret
    exact ⟨rfl, HBR.out⟩
set_option maxRecDepth 100000 in
set_option maxHeartbeats 3200000 in
theorem key_any (s sep : ByteArray) (hsep : sep = ⟨#[44]⟩) (w : World) (hs : s.size ≤ 200) :
    Calls Tryz.prog 84 #[.agg #[.int .i64 1, .int .i64 1, .int .i64 1, .int .i64 0, .bool false, .bool false, .bool false, .bool false], .string s, .string sep] w fun e w' => e = .returned (.string (s.extract 0 (fldL (bl s)).length)) ∧ Below w.heap.size w w' := by
  have hml : (fldL (bl s)).length ≤ s.size := by rw [← bl_size]; exact fld_len _
  have HF := Lib.hid (fun W => fields_any s sep hsep W hs)
  clear hsep
  generalize (fldL (bl s)).length = m at *
  obtain ⟨x, hx⟩ : ∃ x, x = w.heap.size := ⟨_, rfl⟩
  obtain ⟨W0, hW0⟩ : ∃ W0, W0 = w.alloc (.cells #[.int .i64 1, .int .i64 1, .int .i64 1, .int .i64 0, .bool false, .bool false, .bool false, .bool false] 37) := ⟨_, rfl⟩
  have HX0 : Hid (KeyAt W0 x) := Lib.hid (by rw [hW0, hx]; exact heap_alloc_new w _)
  have HB0 : Hid (Below w.heap.size w W0) := Lib.hid (by rw [hW0]; exact (Below.refl _ w).alloc (Nat.le_refl _) _)
  have HWE := Lib.hid hW0
  have HXE := Lib.hid hx
  clear hW0 hx
  go_enter Tryz.func84, Tryz.ntmps84
  go_upto_region 1 with fail
  rw [← HXE.out, ← HWE.out]
  go_upto_region 2 with (go_at_call 110; refine (HF.out _).mono ?_; rintro e w1 ⟨A, n, c, b, off, rfl, rfl, hn, hb, c0, c1, hb1⟩; have HX1 := Lib.hid (HX0.out.keep hb1); have HB1 := Lib.hid (HB0.out.trans (hb1.mono HB0.out.size)); have HC1 := Lib.hid (And.intro hb (And.intro c0 c1)); clear hb1 hb c0 c1)
  clear HF HX0 HB0 HWE HXE
  have hx0 : w1.cell? ⟨x, 0, none⟩ = some (.int .i64 1) := HX1.out.cell 0
  obtain ⟨_, hc0, hc1⟩ := HC1.out
  have hnz : (1 : Int) ≤ (n : Int) := by omega
  have hnz2 : (0 : Int) < (n : Int) := by omega
  go_upto_region 5 with fail
  obtain ⟨y, hy⟩ : ∃ y, y = w1.heap.size := ⟨_, rfl⟩
  obtain ⟨W2, hW2⟩ : ∃ W2, W2 = w1.alloc (.cells #[.int .i64 0, .int .i64 (m : Int)] 155) := ⟨_, rfl⟩
  have HK2 : Hid (Below w1.heap.size w1 W2) := Lib.hid (by rw [hW2]; exact (Below.refl _ _).alloc (Nat.le_refl _) _)
  have HY2 : Hid (∀ W, Below W2.heap.size W2 W → W.cell? ⟨y, 1, none⟩ = some (.int .i64 (m : Int)) ∧ W.cell? ⟨y, 0, none⟩ = some (.int .i64 0)) := Lib.hid (fun W hb => by
    have h : w1.heap.size < W2.heap.size := by rw [hW2]; simp
    have h1 : W2.heap[y]? = some (.cells #[.int .i64 0, .int .i64 (m : Int)] 155 (0, 0)) := by rw [hW2, hy]; exact heap_alloc_new w1 _
    have h2 := (hb.block y (by rw [hy]; exact h)).trans h1
    exact ⟨by simp [World.cell?, h2], by simp [World.cell?, h2]⟩)
  have HXW : Hid (∀ W, Below W2.heap.size W2 W → KeyAt W x) := Lib.hid (fun W hb => (HX1.out.keep HK2.out).keep hb)
  have HB2 := Lib.hid (HB1.out.trans (HK2.out.mono HB1.out.size))
  have HC2 : Hid (∀ W, Below W2.heap.size W2 W → W.cell? ⟨b, off, none⟩ = some (.int .i64 0) ∧ W.cell? ⟨b, off + 1, none⟩ = some (.int .i64 (m : Int))) := Lib.hid (fun W hb => by
    obtain ⟨h0, h1, h2⟩ := HC1.out
    have hk := HK2.out.trans (hb.mono HK2.out.size)
    exact ⟨(hk.cell (p := ⟨b, off, none⟩) h0).trans h1, (hk.cell (p := ⟨b, off + 1, none⟩) h0).trans h2⟩)
  rw [← hy, ← hW2]
  clear hW2 hy hc0 hc1 HC1 HX1 HK2 HB1 hx0
  have mixed : Tryz.prog.follows .mixedOrders = true := by kernel_rfl
  have hmin : min (0 : Int) (m : Int) = 0 := by omega
  have y1 := fun (p : BelowBy W2) => (HY2.out p.W p.h).1
  have y0 := fun (p : BelowBy W2) => (HY2.out p.W p.h).2
  have x7 : ∀ (p : BelowBy W2), p.W.cell? ⟨x, 7, none⟩ = some (.bool false) := fun p => (HXW.out p.W p.h).cell 7
  have x1 : ∀ (p : BelowBy W2), p.W.cell? ⟨x, 1, none⟩ = some (.int .i64 1) := fun p => (HXW.out p.W p.h).cell 1
  have HBG := Lib.hid (fun (p : BelowBy W2) => begin_any s 0 (m : Int) p.W)
  go_cut [8] from 30 to 41 (fun s8 wx => s8 = .int .i64 0 ∧ Hid (Below W2.heap.size W2 wx))
  case first =>
    refine wp_region_quiet_below (by assumption) (by kernel_rfl) ?_
    repeat (quiet_step (first | (go_at_call 111; refine calls_below_of _ (HBG.out _))))
    refine wpQuiet_nil ?_
    rintro wz ⟨⟨wy, hbq⟩, hwz⟩
    replace hwz : wz = wy := hwz
    subst hwz
    try dsimp only
    have HDz := Lib.hid hbq
    clear hbq
    go_wp2_with fail
    go_meet
    exact ⟨rfl, HDz⟩
  case rest =>
    obtain ⟨rfl, HDc⟩ := hcut
    clear y0 y1 x7 x1
    have q2 : wc.cell? ⟨x, 2, none⟩ = some (.int .i64 1) := (HXW.out wc HDc.out).cell 2
    obtain ⟨r0, r1⟩ := HC2.out wc HDc.out
    go_upto_region 8 with fail
    obtain ⟨z, hz⟩ : ∃ z, z = wc.heap.size := ⟨_, rfl⟩
    obtain ⟨W5, hW5⟩ : ∃ W5, W5 = wc.alloc (.cells #[.int .i64 0, .int .i64 (m : Int)] 155) := ⟨_, rfl⟩
    have HD5 : Hid (Below W2.heap.size W2 W5) := Lib.hid (by rw [hW5]; exact HDc.out.alloc HDc.out.size _)
    have z1 : W5.cell? ⟨z, 1, none⟩ = some (.int .i64 (m : Int)) := by
      have h1 : W5.heap[z]? = some (.cells #[.int .i64 0, .int .i64 (m : Int)] 155 (0, 0)) := by rw [hW5, hz]; exact heap_alloc_new wc _
      simp [World.cell?, h1]
    have q3 : W5.cell? ⟨x, 3, none⟩ = some (.int .i64 0) := (HXW.out W5 HD5.out).cell 3
    have HB5 := Lib.hid (HB2.out.trans (HD5.out.mono HB2.out.size))
    rw [← hz, ← hW5]
    clear hW5 hz q2 r0 r1
    have hm0 : ¬ (m : Int) < 0 := by omega
    have hm1 : (0 : Int) ≤ (m : Int) := by omega
    have hm2 : (m : Int) ≤ (s.size : Int) := by omega
    go_wp2_with fail
    go_ret
    exact ⟨rfl, HB5.out⟩
theorem ext_fld (s : ByteArray) : s.extract 0 (fldL (bl s)).length = toB (fldL (bl s)) := by
  have h : fldL (bl s) <+: bl s := List.takeWhile_prefix _
  have e : (bl s).take (fldL (bl s)).length = fldL (bl s) := List.prefix_iff_eq_take.1 h |>.symm
  apply ByteArray.ext
  rw [show (toB (fldL (bl s))).data = (fldL (bl s)).toArray from rfl, ← e]
  apply Array.ext'
  simp [ByteArray.data_extract]
theorem key_fld (s : ByteArray) (w : World) (hs : s.size ≤ 200) :
    Calls Tryz.prog 84 #[.agg #[.int .i64 1, .int .i64 1, .int .i64 1, .int .i64 0, .bool false, .bool false, .bool false, .bool false], .string s, .string ⟨#[44]⟩] w fun e w' => e = .returned (.string (toB (fldL (bl s)))) ∧ Below w.heap.size w w' := by
  rw [← ext_fld]
  exact key_any s ⟨#[44]⟩ rfl w hs
set_option maxRecDepth 100000 in
set_option maxHeartbeats 3200000 in
theorem keys_any (kb : Nat) (a b : ByteArray) (ha : a.size ≤ 200) (hb : b.size ≤ 200) (w : World) (hk : KeyAt w kb) :
    Calls Tryz.prog 53 #[.agg #[.string ⟨#[44]⟩, .slice (some ⟨kb, 0, none⟩) 1 1, .bool false, .bool false, .bool false], .string a, .string b] w fun e w' => e = .returned (.int .i64 (cmpS (fldL (bl a)) (fldL (bl b)))) ∧ Below w.heap.size w w' := by
  have mixed : Tryz.prog.follows .mixedOrders = true := by kernel_rfl
  obtain ⟨x, hx⟩ : ∃ x, x = w.heap.size := ⟨_, rfl⟩
  obtain ⟨W0, hW0⟩ : ∃ W0, W0 = w.alloc (.cells #[.string ⟨#[44]⟩, .slice (some ⟨kb, 0, none⟩) 1 1, .bool false, .bool false, .bool false] 64) := ⟨_, rfl⟩
  have HX0 : Hid (∀ W, Below W0.heap.size W0 W → W.cell? ⟨x, 0, none⟩ = some (.string ⟨#[44]⟩) ∧ W.cell? ⟨x, 1, none⟩ = some (.slice (some ⟨kb, 0, none⟩) 1 1)) := Lib.hid (fun W hb => by
    have h : w.heap.size < W0.heap.size := by rw [hW0]; simp
    have h1 : W0.heap[x]? = some (.cells #[.string ⟨#[44]⟩, .slice (some ⟨kb, 0, none⟩) 1 1, .bool false, .bool false, .bool false] 64 (0, 0)) := by rw [hW0, hx]; exact heap_alloc_new w _
    have h2 := (hb.block x (by rw [hx]; exact h)).trans h1
    exact ⟨by simp [World.cell?, h2], by simp [World.cell?, h2]⟩)
  have HB0 : Hid (Below w.heap.size w W0) := Lib.hid (by rw [hW0]; exact (Below.refl _ w).alloc (Nat.le_refl _) _)
  have HK0 : Hid (∀ W, Below W0.heap.size W0 W → KeyAt W kb) := Lib.hid (fun W hb => (hk.keep HB0.out).keep hb)
  have HCMP := Lib.hid (fun W => compare_any (toB (fldL (bl a))) (toB (fldL (bl b))) W)
  rw [bl_toB, bl_toB] at HCMP
  have HWE := Lib.hid hW0
  have HXE := Lib.hid hx
  have hrange : -1 ≤ cmpS (fldL (bl a)) (fldL (bl b)) ∧ cmpS (fldL (bl a)) (fldL (bl b)) ≤ 1 := by
    unfold cmpS
    split
    · decide
    · split <;> decide
  generalize cmpS (fldL (bl a)) (fldL (bl b)) = cz at *
  clear hk hW0 hx
  go_enter Tryz.func53, Tryz.ntmps53
  go_upto_region 1 with fail
  rw [← HXE.out, ← HWE.out]
  obtain ⟨x0, x1⟩ := HX0.out W0 (Below.refl _ _)
  go_wp2_with fail
  clear x0 x1
  go_loopw [16] (fun i wr => (i = .int .i64 0 ∨ (i = .int .i64 1 ∧ cz = 0)) ∧ Hid (Below W0.heap.size W0 wr)) (fun i _ => 1 - (intOf i).toNat)
  case atStart => exact ⟨.inl rfl, Lib.hid (Below.refl _ _)⟩
  case round =>
    obtain ⟨hi, HBR⟩ := hrel
    rcases hi with rfl | ⟨rfl, rfl⟩
    · have hk0 := (HK0.out wr HBR.out).cell 0
      have hk1 := (HK0.out wr HBR.out).cell 1
      have hk2 := (HK0.out wr HBR.out).cell 2
      have hk3 := (HK0.out wr HBR.out).cell 3
      have hk4 := (HK0.out wr HBR.out).cell 4
      have hk5 := (HK0.out wr HBR.out).cell 5
      have hk6 := (HK0.out wr HBR.out).cell 6
      have hk7 := (HK0.out wr HBR.out).cell 7
      dsimp only [keyCells] at hk0 hk1 hk2 hk3 hk4 hk5 hk6 hk7
      simp only [List.getElem?_toArray, List.getElem?_cons_zero, List.getElem?_cons_succ] at hk0 hk1 hk2 hk3 hk4 hk5 hk6 hk7
      go_upto_region 4 with fail
      obtain ⟨z, hz⟩ : ∃ z, z = wr.heap.size := ⟨_, rfl⟩
      obtain ⟨Wk, hWk⟩ : ∃ Wk, Wk = wr.alloc (.cells #[.int .i64 1, .int .i64 1, .int .i64 1, .int .i64 0, .bool false, .bool false, .bool false, .bool false] 37) := ⟨_, rfl⟩
      have HZ : Hid (KeyAt Wk z) := Lib.hid (by rw [hWk, hz]; exact heap_alloc_new wr _)
      have HBK : Hid (Below W0.heap.size W0 Wk) := Lib.hid (by rw [hWk]; exact HBR.out.alloc HBR.out.size _)
      rw [← hz, ← hWk]
      clear hz hWk hk0 hk1 hk2 hk3 hk4 hk5 hk6 hk7
      have q0 : ∀ (p : BelowBy Wk), p.W.cell? ⟨z, 0, none⟩ = some (.int .i64 1) := fun p => (HZ.out.keep p.h).cell 0
      have q1 : ∀ (p : BelowBy Wk), p.W.cell? ⟨z, 1, none⟩ = some (.int .i64 1) := fun p => (HZ.out.keep p.h).cell 1
      have q2 : ∀ (p : BelowBy Wk), p.W.cell? ⟨z, 2, none⟩ = some (.int .i64 1) := fun p => (HZ.out.keep p.h).cell 2
      have q3 : ∀ (p : BelowBy Wk), p.W.cell? ⟨z, 3, none⟩ = some (.int .i64 0) := fun p => (HZ.out.keep p.h).cell 3
      have q4 : ∀ (p : BelowBy Wk), p.W.cell? ⟨z, 4, none⟩ = some (.bool false) := fun p => (HZ.out.keep p.h).cell 4
      have q5 : ∀ (p : BelowBy Wk), p.W.cell? ⟨z, 5, none⟩ = some (.bool false) := fun p => (HZ.out.keep p.h).cell 5
      have q6 : ∀ (p : BelowBy Wk), p.W.cell? ⟨z, 6, none⟩ = some (.bool false) := fun p => (HZ.out.keep p.h).cell 6
      have q7 : ∀ (p : BelowBy Wk), p.W.cell? ⟨z, 7, none⟩ = some (.bool false) := fun p => (HZ.out.keep p.h).cell 7
      have x0 : ∀ (p : BelowBy Wk), p.W.cell? ⟨x, 0, none⟩ = some (.string ⟨#[44]⟩) := fun p => (HX0.out p.W (HBK.out.trans (p.h.mono HBK.out.size))).1
      refine wp_region_quiet_below (by assumption) (by kernel_rfl) ?_
      repeat (quiet_step (first | (go_at_call 84; refine calls_below_of _ (key_fld _ _ (by assumption)))))
      refine wpQuiet_nil ?_
      rintro wz ⟨⟨wy, hbq⟩, hwz⟩
      replace hwz : wz = wy := hwz
      subst hwz
      try dsimp only
      have HD := Lib.hid (HBK.out.trans (hbq.mono HBK.out.size))
      have HZ2 := Lib.hid (HZ.out.keep hbq)
      have hk4 : wz.cell? ⟨z, 4, none⟩ = some (.bool false) := HZ2.out.cell 4
      have hk5 : wz.cell? ⟨z, 5, none⟩ = some (.bool false) := HZ2.out.cell 5
      have hk6 : wz.cell? ⟨z, 6, none⟩ = some (.bool false) := HZ2.out.cell 6
      clear hbq q0 q1 q2 q3 q4 q5 q6 q7 x0
      by_cases hcz : cz = 0
      · have hcb : (cz == 0) = true := by rw [beq_iff_eq]; exact hcz
        go_wp2_with (go_at_call 54; refine (HCMP.out _).mono ?_; rintro e w5 ⟨rfl, rfl⟩)
        exact ⟨⟨.inr ⟨rfl, hcz⟩, HD⟩, by simp [intOf]⟩
      · have hcb : (cz == 0) = false := beq_eq_false_iff_ne.2 hcz
        go_wp2_with (go_at_call 54; refine (HCMP.out _).mono ?_; rintro e w5 ⟨rfl, rfl⟩)
        go_ret
        exact ⟨rfl, HB0.out.trans (HD.out.mono HB0.out.size)⟩
    · go_wp2_with fail
      go_ret
      exact ⟨rfl, HB0.out.trans (HBR.out.mono HB0.out.size)⟩
set_option maxRecDepth 100000 in
set_option maxHeartbeats 3200000 in
/-- the order of lines -/
theorem cmp_any (kb : Nat) (a b : EV) (ha : goodE a) (hb : goodE b) (w : World) (hk : KeyAt w kb) :
    Calls Tryz.prog 25 #[.agg #[.string ⟨#[44]⟩, .slice (some ⟨kb, 0, none⟩) 1 1, .bool false, .bool false, .bool false], .string a, .string b] w fun e w' => e = .returned (.int .i64 (cvV a b)) ∧ Below w.heap.size w w' := by
  rw [cv_eq a b ha hb]
  obtain ⟨x, hx⟩ : ∃ x, x = w.heap.size := ⟨_, rfl⟩
  obtain ⟨W0, hW0⟩ : ∃ W0, W0 = w.alloc (.cells #[.string ⟨#[44]⟩, .slice (some ⟨kb, 0, none⟩) 1 1, .bool false, .bool false, .bool false] 64) := ⟨_, rfl⟩
  have HX0 : Hid (∀ W, Below W0.heap.size W0 W → W.cell? ⟨x, 0, none⟩ = some (.string ⟨#[44]⟩) ∧ W.cell? ⟨x, 1, none⟩ = some (.slice (some ⟨kb, 0, none⟩) 1 1) ∧ W.cell? ⟨x, 2, none⟩ = some (.bool false) ∧ W.cell? ⟨x, 3, none⟩ = some (.bool false) ∧ W.cell? ⟨x, 4, none⟩ = some (.bool false)) := Lib.hid (fun W hb => by
    have h : w.heap.size < W0.heap.size := by rw [hW0]; simp
    have h1 : W0.heap[x]? = some (.cells #[.string ⟨#[44]⟩, .slice (some ⟨kb, 0, none⟩) 1 1, .bool false, .bool false, .bool false] 64 (0, 0)) := by rw [hW0, hx]; exact heap_alloc_new w _
    have h2 := (hb.block x (by rw [hx]; exact h)).trans h1
    exact ⟨by simp [World.cell?, h2], by simp [World.cell?, h2], by simp [World.cell?, h2], by simp [World.cell?, h2], by simp [World.cell?, h2]⟩)
  have HB0 : Hid (Below w.heap.size w W0) := Lib.hid (by rw [hW0]; exact (Below.refl _ w).alloc (Nat.le_refl _) _)
  have HKS := Lib.hid (keys_any kb a b ha hb W0 (hk.keep HB0.out))
  have HCMP := Lib.hid (fun W => compare_any a b W)
  have HWE := Lib.hid hW0
  have HXE := Lib.hid hx
  generalize cmpS (fldL (bl a)) (fldL (bl b)) = cz at *
  generalize cmpS (bl a) (bl b) = cy at *
  obtain ⟨R, hR⟩ : ∃ R, R = (if cz = 0 then cy else cz) := ⟨_, rfl⟩
  rw [← hR]
  have HR := Lib.hid hR
  clear hk hW0 hx ha hb hR
  go_enter Tryz.func25, Tryz.ntmps25
  go_upto_region 1 with fail
  rw [← HXE.out, ← HWE.out]
  obtain ⟨x0, x1, x2, x3, x4⟩ := HX0.out W0 (Below.refl _ _)
  go_upto_region 2 with (go_at_call 53; refine HKS.out.mono ?_; rintro e w1 ⟨rfl, hb1⟩; have HB1 := Lib.hid (HB0.out.trans (hb1.mono HB0.out.size)); obtain ⟨y0, y1, y2, y3, y4⟩ := HX0.out _ hb1; clear hb1)
  by_cases hcz : cz = 0
  · have HR2 := Lib.hid (show R = cy by rw [HR.out, if_pos hcz])
    clear HR
    subst hcz
    go_wp2_with (go_at_call 54; refine (HCMP.out _).mono ?_; rintro e w5 ⟨rfl, rfl⟩)
    go_ret
    refine ⟨?_, HB1.out⟩
    rw [HR2.out]
    rfl
  · have hcb : (cz == 0) = false := beq_eq_false_iff_ne.2 hcz
    have HR2 := Lib.hid (show R = cz by rw [HR.out, if_neg hcz])
    clear HR
    go_wp2_with fail
    go_ret
    refine ⟨?_, HB1.out⟩
    rw [HR2.out]
    rfl
end Go.Proofs.YtppnhdcnjbjibaaGreatDoor
