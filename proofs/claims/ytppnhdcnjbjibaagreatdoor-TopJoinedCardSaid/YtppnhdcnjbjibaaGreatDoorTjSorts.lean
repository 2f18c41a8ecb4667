/- TopJoined: the text's lines in order. -/
import Derived.Test.YtppnhdcnjbjibaaGreatDoorTjSort
namespace Go.Proofs.YtppnhdcnjbjibaaGreatDoor
open Go.RowKit Go.Sort

/-- the order in its box -/
def SpcAt (T : TypeId) (w : World) (x kb : Nat) : Prop := w.heap[x]? = some (.cells #[.string ⟨#[44]⟩, .slice (some ⟨kb, 0, none⟩) 1 1, .bool false, .bool false, .bool false] T (0, 0))
theorem SpcAt.keep {T : TypeId} {w w' : World} {x kb : Nat} (h : SpcAt T w x kb) (hb : Below w.heap.size w w') : SpcAt T w' x kb := (hb.block x (Array.getElem?_eq_some_iff.1 h).1).trans h
theorem SpcAt.cells {T : TypeId} {w : World} {x kb : Nat} (h : SpcAt T w x kb) : w.cell? ⟨x, 0, none⟩ = some (.string ⟨#[44]⟩) ∧ w.cell? ⟨x, 1, none⟩ = some (.slice (some ⟨kb, 0, none⟩) 1 1) ∧ w.cell? ⟨x, 2, none⟩ = some (.bool false) ∧ w.cell? ⟨x, 3, none⟩ = some (.bool false) ∧ w.cell? ⟨x, 4, none⟩ = some (.bool false) := by
  unfold SpcAt at h
  refine ⟨?_, ?_, ?_, ?_, ?_⟩ <;> simp [World.cell?, h]

set_option maxRecDepth 100000 in
set_option maxHeartbeats 3200000 in
theorem valid_any (kb : Nat) (w : World) (hk : KeyAt w kb) :
    Calls Tryz.prog 23 #[specV kb] w fun e w' => e = .returned (.int .i64 0) ∧ Below w.heap.size w w' := by
  obtain ⟨x, hx⟩ : ∃ x, x = w.heap.size := ⟨_, rfl⟩
  obtain ⟨W0, hW0⟩ : ∃ W0, W0 = w.alloc (.cells #[.string ⟨#[44]⟩, .slice (some ⟨kb, 0, none⟩) 1 1, .bool false, .bool false, .bool false] 40) := ⟨_, rfl⟩
  have HB0 : Hid (Below w.heap.size w W0) := Lib.hid (by rw [hW0]; exact (Below.refl _ w).alloc (Nat.le_refl _) _)
  have HX : Hid (SpcAt 40 W0 x kb) := Lib.hid (by rw [hW0, hx]; exact heap_alloc_new w _)
  have HK : Hid (KeyAt W0 kb) := Lib.hid (hk.keep HB0.out)
  have HWE := Lib.hid hW0
  have HXE := Lib.hid hx
  clear hk hW0 hx
  obtain ⟨x0, x1, x2, x3, x4⟩ := HX.out.cells
  go_enter Tryz.func23, Tryz.ntmps23
  go_upto_region 1 with fail
  rw [← HXE.out, ← HWE.out]
  go_wp2_with fail
  go_loopw [21] (fun s21 wr => (s21 = .int .i64 0 ∨ s21 = .int .i64 1) ∧ Hid (Below W0.heap.size W0 wr)) (fun s21 _ => 1 - (intOf s21).toNat)
  case atStart => exact ⟨.inl rfl, Lib.hid (Below.refl _ _)⟩
  case round =>
    obtain ⟨hs, HBR⟩ := hrel
    clear x0 x1 x2 x3 x4
    rcases hs with rfl | rfl
    · have hk0 := (HK.out.keep HBR.out).cell 0
      have hk1 := (HK.out.keep HBR.out).cell 1
      have hk2 := (HK.out.keep HBR.out).cell 2
      have hk3 := (HK.out.keep HBR.out).cell 3
      have hk4 := (HK.out.keep HBR.out).cell 4
      have hk5 := (HK.out.keep HBR.out).cell 5
      have hk6 := (HK.out.keep HBR.out).cell 6
      have hk7 := (HK.out.keep HBR.out).cell 7
      dsimp only [keyCells] at hk0 hk1 hk2 hk3 hk4 hk5 hk6 hk7
      simp only [List.getElem?_toArray, List.getElem?_cons_zero, List.getElem?_cons_succ] at hk0 hk1 hk2 hk3 hk4 hk5 hk6 hk7
      go_upto_region 8 with fail
      obtain ⟨z, hz⟩ : ∃ z, z = wr.heap.size := ⟨_, rfl⟩
      obtain ⟨Wk, hWk⟩ : ∃ Wk, Wk = wr.alloc (.cells #[.int .i64 1, .int .i64 1, .int .i64 1, .int .i64 0, .bool false, .bool false, .bool false, .bool false] 37) := ⟨_, rfl⟩
      have hZ : KeyAt Wk z := by rw [hWk, hz]; exact heap_alloc_new wr _
      have HBK : Hid (Below W0.heap.size W0 Wk) := Lib.hid (by rw [hWk]; exact HBR.out.alloc HBR.out.size _)
      rw [← hz, ← hWk]
      clear hz hWk hk0 hk1 hk2 hk3 hk4 hk5 hk6 hk7
      have q0 : Wk.cell? ⟨z, 0, none⟩ = some (.int .i64 1) := hZ.cell 0
      have q1 : Wk.cell? ⟨z, 1, none⟩ = some (.int .i64 1) := hZ.cell 1
      have q2 : Wk.cell? ⟨z, 2, none⟩ = some (.int .i64 1) := hZ.cell 2
      have q3 : Wk.cell? ⟨z, 3, none⟩ = some (.int .i64 0) := hZ.cell 3
      clear hZ
      go_wp2_with (go_at_call 41; refine (within_yes _ _ _ _ (by decide) (by decide)).mono ?_; rintro e w5 ⟨rfl, rfl⟩)
      exact ⟨⟨.inr rfl, HBK⟩, by simp [intOf]⟩
    · go_wp2_with fail
      go_ret
      exact ⟨rfl, HB0.out.trans (HBR.out.mono HB0.out.size)⟩

set_option maxRecDepth 100000 in
set_option maxHeartbeats 3200000 in
theorem told_any (kb : Nat) (L : List ByteArray) (v : Value) (w : World) (hv : SL w v L) (hn : L.length ≤ 20000) (hl : ∀ x ∈ L, x.size ≤ 1000) :
    Calls Tryz.prog 26 #[specV kb, v] w fun e w' => e = .returned (.string (toB (txtL (L.map bl)))) ∧ Below w.heap.size w w' := by
  obtain ⟨x, hx⟩ : ∃ x, x = w.heap.size := ⟨_, rfl⟩
  obtain ⟨W0, hW0⟩ : ∃ W0, W0 = w.alloc (.cells #[.string ⟨#[44]⟩, .slice (some ⟨kb, 0, none⟩) 1 1, .bool false, .bool false, .bool false] 64) := ⟨_, rfl⟩
  have HB0 : Hid (Below w.heap.size w W0) := Lib.hid (by rw [hW0]; exact (Below.refl _ w).alloc (Nat.le_refl _) _)
  have HX : Hid (SpcAt 64 W0 x kb) := Lib.hid (by rw [hW0, hx]; exact heap_alloc_new w _)
  have HRS := Lib.hid (result_any L v W0 (hv.keep HB0.out) hn hl)
  have HWE := Lib.hid hW0
  have HXE := Lib.hid hx
  clear hv hW0 hx
  obtain ⟨x0, x1, x2, x3, x4⟩ := HX.out.cells
  generalize toB (txtL (L.map bl)) = T at *
  go_enter Tryz.func26, Tryz.ntmps26
  go_upto_region 1 with fail
  rw [← HXE.out, ← HWE.out]
  go_wp2_with fail
  refine HRS.out.mono ?_
  rintro e w1 ⟨rfl, hb1⟩
  go_wp2_with fail
  go_ret
  exact ⟨rfl, HB0.out.trans (hb1.mono HB0.out.size)⟩

set_option maxRecDepth 100000 in
set_option maxHeartbeats 3200000 in
theorem sorts_any (kb : Nat) (R : List R3) (hR : ∀ r ∈ R, okR r) (hn : R.length ≤ 100) (w : World) (hmx : MX w) (hk : KeyAt w kb) :
    Calls Tryz.prog 8 #[specV kb, .string (toB (txtL (R.map lnL)))] w fun e w' => ∃ Q : List R3, e = .returned (.tuple #[.string (toB (txtL (Q.map lnL))), .int .i64 0]) ∧ Q.Perm R ∧ KeysUp Q ∧ Below w.heap.size w w' := by
  have hok := rows_ok hR hn
  obtain ⟨x, hx⟩ : ∃ x, x = w.heap.size := ⟨_, rfl⟩
  obtain ⟨W0, hW0⟩ : ∃ W0, W0 = w.alloc (.cells #[.string ⟨#[44]⟩, .slice (some ⟨kb, 0, none⟩) 1 1, .bool false, .bool false, .bool false] 40) := ⟨_, rfl⟩
  have HB0 : Hid (Below w.heap.size w W0) := Lib.hid (by rw [hW0]; exact (Below.refl _ w).alloc (Nat.le_refl _) _)
  have HX : Hid (SpcAt 40 W0 x kb) := Lib.hid (by rw [hW0, hx]; exact heap_alloc_new w _)
  have HK : Hid (KeyAt W0 kb) := Lib.hid (hk.keep HB0.out)
  have HM : Hid (MX W0) := Lib.hid (hmx.keep HB0.out)
  have HWE := Lib.hid hW0
  have HXE := Lib.hid hx
  have HSZ := Lib.hid (fun W (h : Below W0.heap.size W0 W) => sized_one (toB (txtL (R.map lnL))) W 9 (HM.out.keep h) (by have := hok.size; omega) hok.large)
  have hmap : (R.map lnL).map toB = R.map ln := by rw [List.map_map]; rfl
  have HLN := Lib.hid (fun W (h : Below W0.heap.size W0 W) => linesN_any (toB (txtL (R.map lnL))) W (HM.out.keep h) (by have := hok.size; omega))
  rw [hok.lines, hmap] at HLN
  generalize toB (txtL (R.map lnL)) = TX at *
  clear hmx hk hW0 hx hok hmap
  obtain ⟨x0, x1, x2, x3, x4⟩ := HX.out.cells
  go_enter Tryz.func8, Tryz.ntmps8
  go_upto_region 1 with fail
  rw [← HXE.out, ← HWE.out]
  go_wp2_with fail
  refine (valid_any kb W0 HK.out).mono ?_
  rintro e wa ⟨rfl, hba⟩
  have HBA := Lib.hid hba
  clear hba x0 x1 x2 x3 x4
  go_wp2_with fail
  refine (HSZ.out wa HBA.out).mono ?_
  rintro e wb ⟨rfl, hbb⟩
  have HBB := Lib.hid (HBA.out.trans (hbb.mono HBA.out.size))
  clear hbb HBA HSZ
  obtain ⟨x0, x1, x2, x3, x4⟩ := (HX.out.keep HBB.out).cells
  go_upto_region 8 with fail
  obtain ⟨z, hz⟩ : ∃ z, z = wb.heap.size := ⟨_, rfl⟩
  obtain ⟨W1, hW1⟩ : ∃ W1, W1 = wb.alloc (.cells #[.string ⟨#[44]⟩, .slice (some ⟨kb, 0, none⟩) 1 1, .bool false, .bool false, .bool false] 64) := ⟨_, rfl⟩
  have HZ : Hid (SpcAt 64 W1 z kb) := Lib.hid (by rw [hW1, hz]; exact heap_alloc_new wb _)
  have HB1 : Hid (Below W0.heap.size W0 W1) := Lib.hid (by rw [hW1]; exact HBB.out.alloc HBB.out.size _)
  rw [← hz, ← hW1]
  clear hz hW1 x0 x1 x2 x3 x4
  go_wp2_with fail
  refine (HLN.out W1 HB1.out).mono ?_
  rintro e wl ⟨v, rfl, hv, hbl, hnil, hnew⟩
  have HV := Lib.hid hv
  have HBL := Lib.hid hbl
  have HNL := Lib.hid (And.intro hnil hnew)
  have HKL := Lib.hid (HK.out.keep (HB1.out.trans (hbl.mono HB1.out.size)))
  obtain ⟨Av, nv, cv, hve⟩ : ∃ A n c, v = .slice A n c := by
    obtain ⟨A, c, e, _⟩ := hv
    exact ⟨A, _, c, e⟩
  have HSO := Lib.hid (sort_lines kb W1.heap.size R hR hn v wl HKL.out HV.out HBL.out.size HNL.out.1 HNL.out.2)
  have HVE := Lib.hid hve
  obtain ⟨y0, y1, y2, y3, y4⟩ := (HZ.out.keep hbl).cells
  clear hv hbl hnil hnew HLN HNL HKL
  subst hve
  go_wp2_with fail
  refine HSO.out.mono ?_
  rintro e w2 ⟨rfl, Q, hq1, hq2, hq3, hb2⟩
  have HQ := Lib.hid (And.intro hq1 hq2)
  have HQ3 := Lib.hid hq3
  have HB2 := Lib.hid (HBL.out.trans (hb2))
  obtain ⟨z0, z1, z2, z3, z4⟩ := (HZ.out.keep HB2.out).cells
  have hqok : ∀ r ∈ Q, okR r := fun r hr => hR r (hq1.subset hr)
  have HTD := Lib.hid (told_any kb (Q.map ln) (.slice Av nv cv) w2 hq3 (by rw [List.length_map, hq1.length_eq]; omega) (fun y hy => by
    obtain ⟨r, hr, rfl⟩ := List.mem_map.1 hy
    have := ln_size (hqok r hr)
    omega))
  have hml : (Q.map ln).map bl = Q.map lnL := by
    rw [List.map_map]
    exact List.map_congr_left fun r _ => bl_toB (lnL r)
  rw [hml] at HTD
  have HBW := Lib.hid (HB0.out.trans ((HB1.out.trans (HB2.out.mono HB1.out.size)).mono HB0.out.size))
  clear hq1 hq2 hq3 hb2 hqok hml y0 y1 y2 y3 y4
  go_wp2_with fail
  refine HTD.out.mono ?_
  rintro e w3 ⟨rfl, hb3⟩
  have HB3 := Lib.hid (HBW.out.trans (hb3.mono HBW.out.size))
  clear hb3 z0 z1 z2 z3 z4
  go_wp2_with fail
  exact bodyPost_ret (v := .tuple #[.string (toB (txtL (Q.map lnL))), .int .i64 0]) (by simp [results, Tryz.results8, go_sem]) rfl ⟨Q, rfl, HQ.out.1, HQ.out.2, HB3.out⟩
end Go.Proofs.YtppnhdcnjbjibaaGreatDoor
