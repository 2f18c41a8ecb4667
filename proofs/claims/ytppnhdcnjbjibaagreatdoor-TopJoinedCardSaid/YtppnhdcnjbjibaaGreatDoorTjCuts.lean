/- TopJoined: the column that a cut takes of rows. -/
import Derived.Test.YtppnhdcnjbjibaaGreatDoorTjCut
import Derived.Test.YtppnhdcnjbjibaaGreatDoorTjOwn
namespace Go.Proofs.YtppnhdcnjbjibaaGreatDoor
open Go.RowKit

/-- lines that are few and short -/
structure LinesOk (M : List (List UInt8)) : Prop where
  no : ∀ x ∈ M, (10 : UInt8) ∉ x
  sh : ∀ x ∈ M, x.length ≤ 300
  few : M.length ≤ 100
theorem LinesOk.size {M : List (List UInt8)} (h : LinesOk M) : (toB (txtL M)).size ≤ 30100 := by
  rw [toB_size]
  exact Nat.le_trans (txtL_len M 300 h.sh) (Nat.mul_le_mul h.few (Nat.le_refl _))
theorem LinesOk.large {M : List (List UInt8)} (h : LinesOk M) : largeB (toB (txtL M)) = false := by
  refine not_large M h.no (by have := h.few; omega) ?_
  have := h.size
  rw [toB_size] at this
  omega
theorem LinesOk.lines {M : List (List UInt8)} (h : LinesOk M) : linesL (toB (txtL M)) = M.map toB := lines_txt M h.no
theorem getD_three (a b c : ByteArray) : ∀ (m : Nat) (h : m < 3), [a, b, c][m] = [a, b, c].getD m ⟨#[]⟩
  | 0, _ => rfl
  | 1, _ => rfl
  | 2, _ => rfl
def fldR (r : R3) (i : Nat) : ByteArray := [r.1, r.2.1, r.2.2].getD (i - 1) ⟨#[]⟩
theorem okT.bl {s : ByteArray} (h : okT s) : (10 : UInt8) ∉ bl s ∧ (bl s).length ≤ 300 := ⟨h.2.2, by rw [bl_size]; have := h.1; omega⟩
theorem fldR_ok {r : R3} (h : okR r) (i : Nat) (h1 : 1 ≤ i) (h2 : i ≤ 3) : okT (fldR r i) := by
  rcases (by omega : i = 1 ∨ i = 2 ∨ i = 3) with rfl | rfl | rfl
  · exact h.1
  · exact h.2.1
  · exact h.2.2
theorem rows_ok {R : List R3} (h : ∀ r ∈ R, okR r) (hn : R.length ≤ 100) : LinesOk (R.map lnL) := by
  refine ⟨fun x hx => ?_, fun x hx => ?_, by rw [List.length_map]; exact hn⟩
  · obtain ⟨r, hr, rfl⟩ := List.mem_map.1 hx
    exact lnL_no (h r hr)
  · obtain ⟨r, hr, rfl⟩ := List.mem_map.1 hx
    have := lnL_len (h r hr)
    omega
theorem col_ok {R : List R3} (h : ∀ r ∈ R, okR r) (hn : R.length ≤ 100) (i : Nat) (h1 : 1 ≤ i) (h2 : i ≤ 3) : LinesOk (R.map fun r => bl (fldR r i)) := by
  refine ⟨fun x hx => ?_, fun x hx => ?_, by rw [List.length_map]; exact hn⟩
  · obtain ⟨r, hr, rfl⟩ := List.mem_map.1 hx
    exact (okT.bl (fldR_ok (h r hr) i h1 h2)).1
  · obtain ⟨r, hr, rfl⟩ := List.mem_map.1 hx
    exact (okT.bl (fldR_ok (h r hr) i h1 h2)).2

/-- a new list -/
theorem sl_new (w : World) (L : List ByteArray) (T : TypeId) : SL (w.alloc (.cells (L.map Value.string).toArray T)) (.slice (some ⟨w.heap.size, 0, none⟩) L.length L.length) L := by
  refine ⟨_, _, rfl, Nat.le_refl _, fun _ => ⟨_, _, rfl, by simp, fun j hj => ?_⟩⟩
  rw [World.cell?_alloc_at _ _ _ _ rfl, Nat.zero_add]
  simp [hj]
theorem sized_new (L : List ByteArray) (w : World) (T : TypeId) (hx : MX w) (hn : L.length ≤ 1000) (hs : ∀ s ∈ L, s.size < 4294967281) (hl : L.any largeB = false) :
    Calls Tryz.prog 14 #[.slice (some ⟨w.heap.size, 0, none⟩) L.length L.length] (w.alloc (.cells (L.map Value.string).toArray T)) fun e w' => e = .returned (.int .i64 0) ∧ Below w.heap.size w w' := by
  have hb : Below w.heap.size w (w.alloc (.cells (L.map Value.string).toArray T)) := (Below.refl _ w).alloc (Nat.le_refl _) _
  exact (sized_list L _ _ (sl_new w L T) hn (hx.keep hb) hs hl).mono fun e w' ⟨he, hw⟩ => ⟨he, hb.trans (hw.mono hb.size)⟩
theorem sized_one (s : ByteArray) (w : World) (T : TypeId) (hx : MX w) (hs : s.size < 4294967281) (hl : largeB s = false) :
    Calls Tryz.prog 14 #[.slice (some ⟨w.heap.size, 0, none⟩) 1 1] (w.alloc (.cells #[.string s] T)) fun e w' => e = .returned (.int .i64 0) ∧ Below w.heap.size w w' :=
  sized_new [s] w T hx (by simp) (fun x hx => by simp at hx; subst hx; exact hs) (by simp [hl])

theorem split_three (r : R3) (h : okR r) : Lib.splitB ⟨#[44]⟩ 0 (Lib.countB (ln r) ⟨#[44]⟩) (ln r) = [r.1, r.2.1, r.2.2] ∧ Lib.countB (ln r) ⟨#[44]⟩ = 2 := by
  have hs := splitB_join 44 [bl r.1, bl r.2.1, bl r.2.2] (by simp) (fun x hx => by
    simp only [List.mem_cons, List.not_mem_nil, or_false] at hx
    rcases hx with rfl | rfl | rfl
    · exact h.1.2.1
    · exact h.2.1.2.1
    · exact h.2.2.2.1)
  refine ⟨?_, hs.2⟩
  have := hs.1
  rw [List.map_cons, List.map_cons, List.map_cons, List.map_nil, toB_bl, toB_bl, toB_bl] at this
  exact this
theorem ln_size {r : R3} (h : okR r) : (ln r).size ≤ 152 := by
  unfold ln
  rw [toB_size]
  exact lnL_len h
theorem split_line (r : R3) (h : okR r) (w : World) (hx : MX w) :
    Calls Tryz.prog 18 #[.string (ln r), .string ⟨#[44]⟩] w fun e w' => e = .returned (.slice (some ⟨w.heap.size, 0, none⟩) 3 3) ∧ w' = w.alloc (.cells #[.string r.1, .string r.2.1, .string r.2.2] 9) := by
  obtain ⟨m, hm⟩ := hx
  have hs := split_three r h
  have c := Tryz.strings_Split (ln r) ⟨#[44]⟩ m w (by have := ln_size h; omega) hm (by decide)
  rw [hs.1, hs.2] at c
  exact c
theorem contains_line (r : R3) (w : World) : Calls Tryz.prog 17 #[.string (ln r), .string ⟨#[44]⟩] w fun e w' => e = .returned (.bool true) ∧ w' = w := by
  have c := Tryz.strings_Contains_one (ln r) 44 w
  rw [← Lib.contains_iff_indexByte] at c
  have : (ln r).data.toList.contains 44 = true := by
    show (lnL r).contains 44 = true
    rw [lnL_eq, List.contains_iff_mem]
    simp
  rw [this] at c
  exact c

set_option maxRecDepth 100000 in
set_option maxHeartbeats 3200000 in
theorem cut_any (rb i : Nat) (R : List R3) (hR : ∀ r ∈ R, okR r) (hn : R.length ≤ 100) (w : World) (hmx : MX w) (hr : RngAt w rb i) (h1 : 1 ≤ i) (h2 : i ≤ 3) :
    Calls Tryz.prog 6 #[cutV rb, .string (toB (txtL (R.map lnL)))] w fun e w' => e = .returned (.tuple #[.string (toB (txtL (R.map fun r => bl (fldR r i)))), .int .i64 0]) ∧ Below w.heap.size w w' := by
  have hok := rows_ok hR hn
  obtain ⟨x, hx⟩ : ∃ x, x = w.heap.size := ⟨_, rfl⟩
  obtain ⟨W0, hW0⟩ : ∃ W0, W0 = w.alloc (.cells #[.bool true, .slice (some ⟨rb, 0, none⟩) 1 1, .bool false, .string ⟨#[44]⟩, .bool false, .string ⟨#[]⟩] 33) := ⟨_, rfl⟩
  have HB0 : Hid (Below w.heap.size w W0) := Lib.hid (by rw [hW0]; exact (Below.refl _ w).alloc (Nat.le_refl _) _)
  have HX : Hid (CutAt W0 x rb) := Lib.hid (by rw [hW0, hx]; exact heap_alloc_new w _)
  have HR : Hid (RngAt W0 rb i) := Lib.hid (hr.keep HB0.out)
  have HM : Hid (MX W0) := Lib.hid (hmx.keep HB0.out)
  have HWE := Lib.hid hW0
  have HXE := Lib.hid hx
  have HSZ := Lib.hid (fun W (h : Below W0.heap.size W0 W) => sized_one (toB (txtL (R.map lnL))) W 9 (HM.out.keep h) (by have := hok.size; omega) hok.large)
  have HLN := Lib.hid (fun W (h : Below W0.heap.size W0 W) => lines_any (toB (txtL (R.map lnL))) W (HM.out.keep h) (by have := hok.size; omega))
  rw [hok.lines] at HLN
  have hmap : (R.map lnL).map toB = R.map ln := by rw [List.map_map]; rfl
  rw [hmap] at HLN
  have HRES := Lib.hid (fun v W (h : SL W v (R.map fun r => fldR r i)) => result_any (R.map fun r => fldR r i) v W h (by rw [List.length_map]; omega) (fun y hy => by
    obtain ⟨r, hr, rfl⟩ := List.mem_map.1 hy
    have := (fldR_ok (hR r hr) i h1 h2).1
    omega))
  rw [List.map_map] at HRES
  have hcm : (bl ∘ fun r => fldR r i) = fun r => bl (fldR r i) := rfl
  rw [hcm] at HRES
  generalize toB (txtL (R.map fun r => bl (fldR r i))) = TZ at *
  generalize toB (txtL (R.map lnL)) = TX at *
  clear hmap hcm hmx hr hW0 hx hok
  obtain ⟨x0, x1, x2, x3, x4, x5⟩ := HX.out.cells
  go_enter Tryz.func6, Tryz.ntmps6
  go_upto_region 1 with fail
  rw [← HXE.out, ← HWE.out]
  go_wp2_with fail
  refine (cutter_any rb i W0 HM.out HR.out h1 h2).mono ?_
  rintro e wa ⟨rfl, hba⟩
  have HBA := Lib.hid hba
  clear hba x0 x1 x2 x3 x4 x5
  go_wp2_with fail
  refine (HSZ.out wa HBA.out).mono ?_
  rintro e wb ⟨rfl, hbb⟩
  have HBB := Lib.hid (HBA.out.trans (hbb.mono HBA.out.size))
  clear hbb
  go_wp2_with fail
  refine (HLN.out wb HBB.out).mono ?_
  rintro e wl ⟨v, rfl, hv, hbl⟩
  have HBL := Lib.hid (HBB.out.trans (hbl.mono HBB.out.size))
  obtain ⟨A, c, rfl, hc, h⟩ := hv
  have hlen : (R.map ln).length = R.length := List.length_map _
  have HH : Hid (0 < R.length → ∃ b off, A = some ⟨b, off, none⟩ ∧ b < wl.heap.size ∧ ∀ j (hj : j < R.length), wl.cell? ⟨b, off + j, none⟩ = some (.string (ln R[j]))) := Lib.hid (fun h0 => by
    obtain ⟨b, off, h1, h2, h3⟩ := h (by omega)
    exact ⟨b, off, h1, h2, fun j hj => (h3 j (by omega)).trans (by rw [List.getElem_map])⟩)
  rw [hlen]
  clear hbl h hc HSZ HLN HBA HBB hlen
  go_wp2_with fail
  go_loopw [8, 28] (fun vo s28 wr => ∃ k : Nat, k ≤ R.length ∧ s28 = .int .i64 (k : Int) ∧ Hid (OwnL wl.heap.size vo ((R.take k).map fun r => fldR r i) wr) ∧ Hid (Below wl.heap.size wl wr)) (fun _ s28 _ => R.length - (intOf s28).toNat)
  case atStart => exact ⟨0, Nat.zero_le _, rfl, Lib.hid (OwnL.nil _ _), Lib.hid (Below.refl _ _)⟩
  case round =>
    obtain ⟨k, hk, rfl, HO, HBR⟩ := hrel
    by_cases hlt : k < R.length
    · have hltz : (k : Int) < (R.length : Int) := by omega
      have hk1 : IntKind.i64.wrap ((k : Int) + 1) = ((k + 1 : Nat) : Int) := IntWalk.i64_in _ (by omega)
      obtain ⟨b, off, rfl, hb, hcell⟩ := HH.out (by omega)
      have hc1 : wr.cell? ⟨b, off + k, none⟩ = some (.string (ln R[k])) := (HBR.out.cell (p := ⟨b, off + k, none⟩) hb).trans (hcell k hlt)
      have hrk := hR R[k] (List.getElem_mem hlt)
      have HNX : Hid ((R.take (k + 1)).map (fun r => fldR r i) = ((R.take k).map fun r => fldR r i) ++ [fldR R[k] i]) := Lib.hid (by rw [List.take_succ_eq_append_getElem hlt, List.map_append]; rfl)
      have HLEN : Hid (((R.take k).map fun r => fldR r i).length ≤ 100) := Lib.hid (by rw [List.length_map, List.length_take]; omega)
      obtain ⟨r, hr⟩ : ∃ r, r = R[k] := ⟨_, rfl⟩
      rw [← hr] at hc1 hrk HNX
      have HRK := Lib.hid hrk
      obtain ⟨lr, hlr⟩ : ∃ lr, lr = ln r := ⟨_, rfl⟩
      have HCN := Lib.hid (contains_line r)
      have HSP := Lib.hid (fun W h => split_line r hrk W h)
      rw [← hlr] at HCN HSP hc1
      have HX1 := Lib.hid (HX.out.keep (HBL.out.trans (HBR.out.mono HBL.out.size)))
      have HR1 := Lib.hid (HR.out.keep (HBL.out.trans (HBR.out.mono HBL.out.size)))
      have HM1 := Lib.hid (HM.out.keep (HBL.out.trans (HBR.out.mono HBL.out.size)))
      obtain ⟨LO, hLO⟩ : ∃ LO, LO = (R.take k).map fun r => fldR r i := ⟨_, rfl⟩
      rw [← hLO] at HO HNX HLEN
      clear hcell hr hrk hlr hLO
      obtain ⟨x0, x1, x2, x3, x4, x5⟩ := HX1.out.cells
      obtain ⟨AO, cO, rfl⟩ := HO.out.form
      go_wp2_with fail
      refine (HCN.out _).mono ?_
      rintro e w1 ⟨rfl, rfl⟩
      go_wp2_with fail
      refine (HSP.out _ HM1.out).mono ?_
      rintro e w2 ⟨rfl, hw2⟩
      obtain ⟨sb, hsb⟩ : ∃ sb, sb = w1.heap.size := ⟨_, rfl⟩
      rw [← hsb]
      have HS2 : Hid (SL w2 (.slice (some ⟨sb, 0, none⟩) 3 3) [r.1, r.2.1, r.2.2]) := Lib.hid (by rw [hw2, hsb]; exact sl_new w1 [r.1, r.2.1, r.2.2] _)
      have HB2 : Hid (Below w1.heap.size w1 w2) := Lib.hid (by rw [hw2]; exact (Below.refl _ w1).alloc (Nat.le_refl _) _)
      clear hw2 hsb x0 x1 x2 x3 x4 x5 hc1 HCN HSP
      have HX2 := Lib.hid (HX1.out.keep HB2.out)
      have HR2 := Lib.hid (HR1.out.keep HB2.out)
      have HO2 := Lib.hid (HO.out.keep HB2.out)
      have HBR2 := Lib.hid (HBR.out.trans (HB2.out.mono HBR.out.size))
      clear HX1 HR1 HM1 HO HB2 HBR
      go_wp2_with fail
      go_loopw [11, 60] (fun vw s60 wx => ∃ m : Nat, m ≤ 3 ∧ s60 = .int .i64 (m : Int) ∧ Hid (OwnL w2.heap.size vw (if i ≤ m then [fldR r i] else []) wx) ∧ Hid (Below w2.heap.size w2 wx)) (fun _ s60 _ => 3 - (intOf s60).toNat)
      case atStart => exact ⟨0, Nat.zero_le _, rfl, Lib.hid (by rw [if_neg (by omega)]; exact OwnL.nil _ _), Lib.hid (Below.refl _ _)⟩
      case round =>
        obtain ⟨m, hm, rfl, HW, HBX⟩ := hrel
        have HX3 := Lib.hid (HX2.out.keep HBX.out)
        obtain ⟨x0, x1, x2, x3, x4, x5⟩ := HX3.out.cells
        by_cases hm3 : m < 3
        · have hm3z : (m : Int) < 3 := by omega
          have hm1 : IntKind.i64.wrap ((m : Int) + 1) = ((m + 1 : Nat) : Int) := IntWalk.i64_in _ (by omega)
          have hcm : wr.cell? ⟨sb, 0 + m, none⟩ = some (.string [r.1, r.2.1, r.2.2][m]) := by
            obtain ⟨A', c', e', _, hh⟩ := HS2.out.keep HBX.out
            obtain ⟨b', off', e2, _, hh2⟩ := hh (by simp)
            injection e' with e3 _ _
            rw [e2] at e3
            injection e3 with e4
            injection e4 with e5 e6 _
            rw [e5, e6]
            exact hh2 m hm3
          rw [Nat.zero_add] at hcm
          have HFL : Hid (m + 1 = i → [r.1, r.2.1, r.2.2][m] = fldR r i) := Lib.hid (fun e => by
            subst e
            unfold fldR
            rw [Nat.add_sub_cancel]
            exact getD_three _ _ _ m hm3)
          obtain ⟨y, hy⟩ : ∃ y, y = [r.1, r.2.1, r.2.2][m] := ⟨_, rfl⟩
          rw [← hy] at hcm HFL
          have HTK := Lib.hid (taken_any rb i (m + 1) wr (HR2.out.keep HBX.out) h1)
          clear hy
          by_cases hmi : m + 1 = i
          · rw [decide_eq_true hmi] at HTK
            have hyf := HFL.out hmi
            have HW2 : Hid (OwnL w2.heap.size u11 [] wr) := Lib.hid (by have := HW.out; rwa [if_neg (by omega)] at this)
            have HWN : Hid ((if i ≤ m + 1 then [fldR r i] else []) = [fldR r i]) := Lib.hid (by rw [if_pos (by omega)])
            obtain ⟨AW, cW, hcw⟩ := HW2.out.form
            subst hcw
            clear HW HFL
            have hyh := Lib.hid hyf
            clear hyf hmi
            go_wp2_with fail
            refine HTK.out.mono ?_
            rintro e w3 ⟨rfl, hb3⟩
            have HW3 := Lib.hid (HW2.out.keep hb3)
            have HBX3 := Lib.hid (HBX.out.trans (hb3.mono HBX.out.size))
            clear hb3 x0 x1 x2 x3 x4 x5 hcm HW2 HBX
            go_wp2_with (at_builtin; refine app_one rfl _ _ rfl w2.heap.size _ [] HW3.out rfl y rfl (by simp) HBX3.out.size ?_)
            intro A4 c4 w4 ho4 hb4 _
            have HW4 := Lib.hid ho4
            have HBX4 := Lib.hid (HBX3.out.trans hb4)
            clear ho4 hb4
            go_wp2_with fail
            exact ⟨⟨m + 1, by omega, by simp, Lib.hid (by rw [HWN.out, ← hyh.out]; exact HW4.out), HBX4⟩, by simp [intOf]; omega⟩
          · rw [decide_eq_false hmi] at HTK
            have HWN : Hid ((if i ≤ m + 1 then [fldR r i] else []) = (if i ≤ m then [fldR r i] else [])) := Lib.hid (by by_cases h : i ≤ m <;> simp [h] <;> omega)
            obtain ⟨AW, cW, hcw⟩ := HW.out.form
            generalize hwn : (if i ≤ m then [fldR r i] else []) = LW at *
            subst hcw
            clear HFL
            go_wp2_with fail
            refine HTK.out.mono ?_
            rintro e w3 ⟨rfl, hb3⟩
            have HW3 := Lib.hid (HW.out.keep hb3)
            have HBX3 := Lib.hid (HBX.out.trans (hb3.mono HBX.out.size))
            clear hb3 x0 x1 x2 x3 x4 x5 hcm HW HBX hwn
            go_wp2_with fail
            exact ⟨⟨m + 1, by omega, by simp, Lib.hid (by rw [HWN.out]; exact HW3.out), HBX3⟩, by simp [intOf]; omega⟩
        · obtain rfl : m = 3 := by omega
          have HW2 : Hid (OwnL w2.heap.size u11 [fldR r i] wr) := Lib.hid (by have := HW.out; rwa [if_pos (by omega)] at this)
          have hfs := (fldR_ok HRK.out i h1 h2).1
          have HJ := Lib.hid (join_any [fldR r i] ⟨#[]⟩ u11 wr HW2.out.sl (by simp) (by rw [List.map_cons, List.map_nil, Lib.join_one, bl_size]; omega))
          rw [List.map_cons, List.map_nil, Lib.join_one, toB_bl] at HJ
          have HO3 := Lib.hid (HO2.out.keep HBX.out)
          have HBR3 := Lib.hid (HBR2.out.trans (HBX.out.mono HBR2.out.size))
          have hLN := HLEN.out
          obtain ⟨AW, cW, hcw⟩ := HW2.out.form
          subst hcw
          obtain ⟨y, hy⟩ : ∃ y, y = fldR r i := ⟨_, rfl⟩
          rw [← hy] at HJ HNX
          clear HW HW2 hy hfs
          go_wp2_with fail
          refine HJ.out.mono ?_
          rintro e w3 ⟨rfl, hb3⟩
          have HO4 := Lib.hid (HO3.out.keep hb3)
          have HBR4 := Lib.hid (HBR3.out.trans (hb3.mono HBR3.out.size))
          clear hb3 x0 x1 x2 x3 x4 x5
          go_wp2_with (at_builtin; refine app_one rfl _ _ rfl wl.heap.size _ LO HO4.out rfl y rfl (by omega) HBR4.out.size ?_)
          intro A4 c4 w4 ho4 hb4 _
          have HW4 := Lib.hid ho4
          have HBX4 := Lib.hid (HBR4.out.trans hb4)
          clear ho4 hb4
          go_wp2_with fail
          exact ⟨⟨k + 1, by omega, by simp, Lib.hid (by rw [HNX.out]; exact HW4.out), HBX4⟩, by simp [intOf]; omega⟩
    · obtain rfl : k = R.length := by omega
      have HRS := Lib.hid (HRES.out u8 wr (by have := HO.out.sl; rwa [List.take_length] at this))
      have hB := HB0.out.trans ((HBL.out.trans (HBR.out.mono HBL.out.size)).mono HB0.out.size)
      have HBZ := Lib.hid hB
      clear hB
      go_wp2_with fail
      refine HRS.out.mono ?_
      rintro e w3 ⟨rfl, hb3⟩
      have HBY := Lib.hid (HBZ.out.trans (hb3.mono HBZ.out.size))
      clear hb3
      go_wp2_with fail
      exact bodyPost_ret (v := .tuple #[.string TZ, .int .i64 0]) (by simp [results, Tryz.results6, go_sem]) rfl ⟨rfl, HBY.out⟩
end Go.Proofs.YtppnhdcnjbjibaaGreatDoor
