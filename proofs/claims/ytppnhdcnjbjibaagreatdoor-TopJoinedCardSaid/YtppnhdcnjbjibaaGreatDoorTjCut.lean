/- TopJoined: what a cut takes of a line: one field. -/
import Derived.Test.YtppnhdcnjbjibaaGreatDoorTjLines
import Derived.Test.YtppnhdcnjbjibaaGreatDoorGsMem
namespace Go.Proofs.YtppnhdcnjbjibaaGreatDoor
open Go.RowKit

/-- the one range lies in a block of its own -/
def RngAt (w : World) (rb i : Nat) : Prop := w.heap[rb]? = some (.cells #[.int .i64 (i : Int), .int .i64 (i : Int)] 30 (0, 0))
theorem RngAt.lt {w : World} {rb i : Nat} (h : RngAt w rb i) : rb < w.heap.size := (Array.getElem?_eq_some_iff.1 h).1
theorem RngAt.keep {w w' : World} {rb i : Nat} (h : RngAt w rb i) (hb : Below w.heap.size w w') : RngAt w' rb i := (hb.block rb h.lt).trans h
theorem RngAt.cell {w : World} {rb i : Nat} (h : RngAt w rb i) : w.cell? ⟨rb, 0, none⟩ = some (.int .i64 (i : Int)) ∧ w.cell? ⟨rb, 1, none⟩ = some (.int .i64 (i : Int)) := by
  unfold RngAt at h
  constructor <;> simp [World.cell?, h]
/-- the cut's order, as a value -/
abbrev cutV (rb : Nat) : Value := .agg #[.bool true, .slice (some ⟨rb, 0, none⟩) 1 1, .bool false, .string ⟨#[44]⟩, .bool false, .string ⟨#[]⟩]
/-- the cut's order in its box -/
def CutAt (w : World) (x rb : Nat) : Prop := w.heap[x]? = some (.cells #[.bool true, .slice (some ⟨rb, 0, none⟩) 1 1, .bool false, .string ⟨#[44]⟩, .bool false, .string ⟨#[]⟩] 33 (0, 0))
theorem CutAt.lt {w : World} {x rb : Nat} (h : CutAt w x rb) : x < w.heap.size := (Array.getElem?_eq_some_iff.1 h).1
theorem CutAt.keep {w w' : World} {x rb : Nat} (h : CutAt w x rb) (hb : Below w.heap.size w w') : CutAt w' x rb := (hb.block x h.lt).trans h
theorem CutAt.cell {w : World} {x rb : Nat} (h : CutAt w x rb) (j : Nat) : w.cell? ⟨x, j, none⟩ = (#[Value.bool true, .slice (some ⟨rb, 0, none⟩) 1 1, .bool false, .string ⟨#[44]⟩, .bool false, .string ⟨#[]⟩])[j]? := by
  unfold CutAt at h
  simp [World.cell?, h]
theorem CutAt.cells {w : World} {x rb : Nat} (h : CutAt w x rb) : w.cell? ⟨x, 0, none⟩ = some (.bool true) ∧ w.cell? ⟨x, 1, none⟩ = some (.slice (some ⟨rb, 0, none⟩) 1 1) ∧ w.cell? ⟨x, 2, none⟩ = some (.bool false) ∧ w.cell? ⟨x, 3, none⟩ = some (.string ⟨#[44]⟩) ∧ w.cell? ⟨x, 4, none⟩ = some (.bool false) ∧ w.cell? ⟨x, 5, none⟩ = some (.string ⟨#[]⟩) :=
  ⟨h.cell 0, h.cell 1, h.cell 2, h.cell 3, h.cell 4, h.cell 5⟩

set_option maxHeartbeats 800000 in
theorem within_yes (n a b : Int) (w : World) (h1 : a ≤ n) (h2 : n ≤ b) :
    Calls Tryz.prog 41 #[.int .i64 n, .int .i64 a, .int .i64 b] w fun e w' => e = .returned (.bool true) ∧ w' = w := by
  go_enter Tryz.func41, Tryz.ntmps41
  go_wp2_with fail
  go_ret
  exact ⟨rfl, rfl⟩

set_option maxRecDepth 100000 in
set_option maxHeartbeats 1600000 in
theorem takenC_any (nb i n : Nat) (w : World) (hc : w.cell? ⟨nb, 0, none⟩ = some (.int .i64 (n : Int))) (h1 : 1 ≤ i) :
    Calls Tryz.prog 50 #[.agg #[.int .i64 (i : Int), .int .i64 (i : Int)], .pointer (some ⟨nb, 0, none⟩)] w fun e w' => e = .returned (.bool (decide (n = i))) ∧ Below w.heap.size w w' := by
  obtain ⟨x, hx⟩ : ∃ x, x = w.heap.size := ⟨_, rfl⟩
  obtain ⟨W0, hW0⟩ : ∃ W0, W0 = w.alloc (.cells #[.int .i64 (i : Int), .int .i64 (i : Int)] 30) := ⟨_, rfl⟩
  have HB0 : Hid (Below w.heap.size w W0) := Lib.hid (by rw [hW0]; exact (Below.refl _ w).alloc (Nat.le_refl _) _)
  have hX : RngAt W0 x i := by rw [hW0, hx]; exact heap_alloc_new w _
  obtain ⟨x0, x1⟩ := hX.cell
  have hn0 : W0.cell? ⟨nb, 0, none⟩ = some (.int .i64 (n : Int)) := (HB0.out.cell (p := ⟨nb, 0, none⟩) (World.block_lt_of_cell? w _ hc)).trans hc
  have HWE := Lib.hid hW0
  have HXE := Lib.hid hx
  have hi0 : ¬ (i : Int) = 0 := by omega
  have hi1 : ((i : Int) == 0) = false := beq_eq_false_iff_ne.2 hi0
  clear hc hX hW0 hx
  rcases Nat.lt_trichotomy n i with h | h | h
  · have hfin := Lib.hid (show decide (n = i) = false from decide_eq_false (by omega))
    have hz : ¬ (i : Int) ≤ (n : Int) := by omega
    go_enter Tryz.func50, Tryz.ntmps50
    go_upto_region 1 with fail
    rw [← HXE.out, ← HWE.out]
    go_wp2_with fail
    go_ret
    exact ⟨ret_bool hfin.out.symm, HB0.out⟩
  · subst h
    have hfin := Lib.hid (show decide (n = n) = true from decide_eq_true rfl)
    go_enter Tryz.func50, Tryz.ntmps50
    go_upto_region 1 with fail
    rw [← HXE.out, ← HWE.out]
    go_wp2_with fail
    go_ret
    exact ⟨ret_bool hfin.out.symm, HB0.out⟩
  · have hfin := Lib.hid (show decide (n = i) = false from decide_eq_false (by omega))
    have hz : (i : Int) ≤ (n : Int) := by omega
    have hz2 : ¬ (n : Int) ≤ (i : Int) := by omega
    go_enter Tryz.func50, Tryz.ntmps50
    go_upto_region 1 with fail
    rw [← HXE.out, ← HWE.out]
    go_wp2_with fail
    go_ret
    exact ⟨ret_bool hfin.out.symm, HB0.out⟩

set_option maxRecDepth 100000 in
set_option maxHeartbeats 1600000 in
theorem idxR_any (rb nb i n : Nat) (w : World) (hr : RngAt w rb i) (hc : w.cell? ⟨nb, 0, none⟩ = some (.int .i64 (n : Int))) (h1 : 1 ≤ i) :
    Calls Tryz.prog 80 #[.slice (some ⟨rb, 0, none⟩) 1 1, .func (.func 50) #[] #[.pointer (some ⟨nb, 0, none⟩)]] w fun e w' => e = .returned (.int .i64 (if n = i then 0 else -1)) ∧ Below w.heap.size w w' := by
  have HR := Lib.hid hr
  have HC := Lib.hid hc
  have eg := enters_of Tryz.func50 (by kernel_rfl) rfl
  obtain ⟨b, hb⟩ : ∃ b, b = decide (n = i) := ⟨_, rfl⟩
  have HCALL : Hid (∀ W, Below w.heap.size w W → Calls Tryz.prog 50 #[.agg #[.int .i64 (i : Int), .int .i64 (i : Int)], .pointer (some ⟨nb, 0, none⟩)] W fun e w' => e = .returned (.bool b) ∧ Below W.heap.size W w') := Lib.hid (fun W hW => by
    rw [hb]
    exact takenC_any nb i n W ((hW.cell (p := ⟨nb, 0, none⟩) (World.block_lt_of_cell? w _ hc)).trans hc) h1)
  obtain ⟨R, hR⟩ : ∃ R : Int, R = if n = i then 0 else -1 := ⟨_, rfl⟩
  rw [← hR]
  have HFN : Hid (R = if b then 0 else -1) := Lib.hid (by rw [hR, hb]; by_cases h : n = i <;> simp [h])
  clear hr hc hb hR
  go_enter Tryz.func80, Tryz.ntmps80
  go_wp2_with fail
  go_loopw [8] (fun s8 wr => (s8 = .int .i64 0 ∨ (s8 = .int .i64 1 ∧ b = false)) ∧ Hid (Below w.heap.size w wr)) (fun s8 _ => 1 - (intOf s8).toNat)
  case atStart => exact ⟨.inl rfl, Lib.hid (Below.refl _ _)⟩
  case round =>
    obtain ⟨hs, HBR⟩ := hrel
    rcases hs with rfl | ⟨rfl, rfl⟩
    · obtain ⟨r0, r1⟩ := (HR.out.keep HBR.out).cell
      cases b with
      | false =>
        go_wp2_with fail
        refine (HCALL.out wr HBR.out).mono ?_
        rintro e w1 ⟨rfl, hb1⟩
        go_wp2_with fail
        exact ⟨⟨by simp, Lib.hid (HBR.out.trans (hb1.mono HBR.out.size))⟩, by simp [intOf]⟩
      | true =>
        go_wp2_with fail
        refine (HCALL.out wr HBR.out).mono ?_
        rintro e w1 ⟨rfl, hb1⟩
        go_wp2_with fail
        go_ret
        exact ⟨ret_int (by rw [HFN.out]; rfl), HBR.out.trans (hb1.mono HBR.out.size)⟩
    · go_wp2_with fail
      go_ret
      exact ⟨ret_int (by rw [HFN.out]; rfl), HBR.out⟩

set_option maxRecDepth 100000 in
set_option maxHeartbeats 1600000 in
theorem taken_any (rb i n : Nat) (w : World) (hr : RngAt w rb i) (h1 : 1 ≤ i) :
    Calls Tryz.prog 19 #[cutV rb, .int .i64 (n : Int)] w fun e w' => e = .returned (.bool (decide (n = i))) ∧ Below w.heap.size w w' := by
  obtain ⟨x, hx⟩ : ∃ x, x = w.heap.size := ⟨_, rfl⟩
  obtain ⟨y, hy⟩ : ∃ y, y = w.heap.size + 1 := ⟨_, rfl⟩
  obtain ⟨W0, hW0⟩ : ∃ W0, W0 = (w.alloc (.cells #[.bool true, .slice (some ⟨rb, 0, none⟩) 1 1, .bool false, .string ⟨#[44]⟩, .bool false, .string ⟨#[]⟩] 33)).alloc (.cells #[.int .i64 (n : Int)] 3) := ⟨_, rfl⟩
  have HB0 : Hid (Below w.heap.size w W0) := Lib.hid (by rw [hW0]; exact ((Below.refl _ w).alloc (Nat.le_refl _) _).alloc (by simp) _)
  have HX : Hid (CutAt W0 x rb) := Lib.hid (by
    rw [hW0, hx]
    exact (Below.heap_alloc _ _ _ (by simp)).trans (heap_alloc_new w _))
  have HN : Hid (W0.cell? ⟨y, 0, none⟩ = some (.int .i64 (n : Int))) := Lib.hid (by
    rw [hW0, hy]
    have h := heap_alloc_new (w.alloc (.cells #[.bool true, .slice (some ⟨rb, 0, none⟩) 1 1, .bool false, .string ⟨#[44]⟩, .bool false, .string ⟨#[]⟩] 33)) (.cells #[.int .i64 (n : Int)] 3)
    rw [show (w.alloc (.cells #[.bool true, .slice (some ⟨rb, 0, none⟩) 1 1, .bool false, .string ⟨#[44]⟩, .bool false, .string ⟨#[]⟩] 33)).heap.size = w.heap.size + 1 by simp] at h
    simp only [World.cell?, h]
    rfl)
  have HR : Hid (RngAt W0 rb i) := Lib.hid (hr.keep HB0.out)
  have HI := Lib.hid (idxR_any rb y i n W0 HR.out HN.out h1)
  have HWE := Lib.hid hW0
  have HXE := Lib.hid hx
  have HYE := Lib.hid hy
  obtain ⟨m, hm⟩ : ∃ m : Int, m = if n = i then 0 else -1 := ⟨_, rfl⟩
  have HM := Lib.hid hm
  rw [← hm] at HI
  clear hr hW0 hx hy hm
  have HCF : Hid (Calls Tryz.prog 49 #[.slice (some ⟨rb, 0, none⟩) 1 1, .func (.func 50) #[] #[.pointer (some ⟨y, 0, none⟩)]] W0 fun e w' => e = .returned (.bool (decide (0 ≤ m))) ∧ Below W0.heap.size W0 w') := Lib.hid (by
    clear HM HX HN HR HB0 HWE HXE HYE
    go_enter Tryz.func49, Tryz.ntmps49
    go_wp2_with fail
    refine HI.out.mono ?_
    rintro e w1 ⟨rfl, hb1⟩
    go_wp2_with fail
    go_ret
    exact ⟨rfl, hb1⟩)
  have hdm : decide (0 ≤ m) = decide (n = i) := by rw [HM.out]; by_cases h : n = i <;> simp [h]
  rw [hdm] at HCF
  clear HI hdm HM HN HR
  obtain ⟨b, hb⟩ : ∃ b, b = decide (n = i) := ⟨_, rfl⟩
  rw [← hb] at HCF ⊢
  clear hb
  obtain ⟨x0, x1, x2, x3, x4, x5⟩ := HX.out.cells
  go_enter Tryz.func19, Tryz.ntmps19
  go_upto_region 1 with fail
  rw [← HYE.out, ← HXE.out, ← HWE.out]
  go_wp2_with fail
  refine HCF.out.mono ?_
  rintro e w1 ⟨rfl, hb1⟩
  obtain ⟨z0, z1, z2, z3, z4, z5⟩ := (HX.out.keep hb1).cells
  have HB1 := Lib.hid (HB0.out.trans (hb1.mono HB0.out.size))
  clear hb1 x0 x1 x2 x3 x4 x5
  cases b with
  | true =>
    go_wp2_with fail
    go_ret
    exact ⟨rfl, HB1.out⟩
  | false =>
    go_wp2_with fail
    go_ret
    exact ⟨rfl, HB1.out⟩

set_option maxRecDepth 100000 in
set_option maxHeartbeats 3200000 in
theorem cutter_any (rb i : Nat) (w : World) (hx : MX w) (hr : RngAt w rb i) (h1 : 1 ≤ i) (h2 : i ≤ 3) :
    Calls Tryz.prog 13 #[cutV rb] w fun e w' => e = .returned (.int .i64 0) ∧ Below w.heap.size w w' := by
  obtain ⟨m, hm⟩ := hx
  obtain ⟨x, hx⟩ : ∃ x, x = w.heap.size := ⟨_, rfl⟩
  obtain ⟨W0, hW0⟩ : ∃ W0, W0 = w.alloc (.cells #[.bool true, .slice (some ⟨rb, 0, none⟩) 1 1, .bool false, .string ⟨#[44]⟩, .bool false, .string ⟨#[]⟩] 33) := ⟨_, rfl⟩
  have HB0 : Hid (Below w.heap.size w W0) := Lib.hid (by rw [hW0]; exact (Below.refl _ w).alloc (Nat.le_refl _) _)
  have HX : Hid (CutAt W0 x rb) := Lib.hid (by rw [hW0, hx]; exact heap_alloc_new w _)
  have HR : Hid (RngAt W0 rb i) := Lib.hid (hr.keep HB0.out)
  have HM : Hid (W0.cell? ⟨0, 0, none⟩ = some (.int .i64 m)) := Lib.hid ((HB0.out.cell (p := ⟨0, 0, none⟩) (World.block_lt_of_cell? w _ hm)).trans hm)
  have HWE := Lib.hid hW0
  have HXE := Lib.hid hx
  have hi0 : ¬ (i : Int) = 0 := by omega
  have hi1 : ((i : Int) == 0) = false := beq_eq_false_iff_ne.2 hi0
  have q1 : (1 : Int) ≤ (i : Int) := by omega
  have q2 : (i : Int) ≤ 4096 := by omega
  have q3 : (i : Int) ≤ (i : Int) := by omega
  clear hm hr hW0 hx
  obtain ⟨x0, x1, x2, x3, x4, x5⟩ := HX.out.cells
  go_enter Tryz.func13, Tryz.ntmps13
  go_upto_region 1 with fail
  rw [← HXE.out, ← HWE.out]
  go_wp2_with fail
  go_loopw [18] (fun s18 wr => (s18 = .int .i64 0 ∨ s18 = .int .i64 1) ∧ Hid (Below W0.heap.size W0 wr)) (fun s18 _ => 1 - (intOf s18).toNat)
  case atStart => exact ⟨.inl rfl, Lib.hid (Below.refl _ _)⟩
  case round =>
    obtain ⟨hs, HBR⟩ := hrel
    obtain ⟨z0, z1, z2, z3, z4, z5⟩ := (HX.out.keep HBR.out).cells
    clear x0 x1 x2 x3 x4 x5
    rcases hs with rfl | rfl
    · obtain ⟨r0, r1⟩ := (HR.out.keep HBR.out).cell
      go_upto_region 8 with fail
      obtain ⟨y, hy⟩ : ∃ y, y = wr.heap.size := ⟨_, rfl⟩
      obtain ⟨W1, hW1⟩ : ∃ W1, W1 = wr.alloc (.cells #[.int .i64 (i : Int), .int .i64 (i : Int)] 30) := ⟨_, rfl⟩
      have HB1 : Hid (Below W0.heap.size W0 W1) := Lib.hid (by rw [hW1]; exact HBR.out.alloc HBR.out.size _)
      have hY : RngAt W1 y i := by rw [hW1, hy]; exact heap_alloc_new wr _
      obtain ⟨y0, y1⟩ := hY.cell
      rw [← hy, ← hW1]
      clear hY hy hW1
      go_wp2_with (go_at_call 41; refine (within_yes _ _ _ _ (by assumption) (by assumption)).mono ?_; rintro e w5 ⟨rfl, rfl⟩)
      exact ⟨⟨.inr rfl, HB1⟩, by simp [intOf]⟩
    · go_wp2_with (go_at_call 17; refine (Tryz.strings_Contains_one ⟨#[]⟩ 10 _).mono ?_; rintro e w5 ⟨rfl, rfl⟩)
      go_ret
      exact ⟨rfl, HB0.out.trans (HBR.out.mono HB0.out.size)⟩
end Go.Proofs.YtppnhdcnjbjibaaGreatDoor
