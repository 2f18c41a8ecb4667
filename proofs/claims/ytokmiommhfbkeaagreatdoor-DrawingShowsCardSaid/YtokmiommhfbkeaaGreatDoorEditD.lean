/- The program's editor, in its box: what each key that changes the text does. -/
import Derived.Test.YtokmiommhfbkeaaGreatDoorEditC
namespace Go.Proofs.YtokmiommhfbkeaaGreatDoor
open Go.RowKit

set_option maxRecDepth 100000 in
set_option maxHeartbeats 3200000 in
theorem change_6 (d : ED) (byte : Int) (was : Bool) (bv hv : Value) (place : Int) (begun : ByteArray) (b : Nat) (w : World) (h : Box w b (edC d bv place begun hv)) (ha : d.a ≤ d.text.size) (ht : d.text.size ≤ 1000) (_hkl : d.killed.size ≤ 1000) :
    Calls Tryz.prog 37 #[.pointer (some ⟨b, 0, none⟩), .agg #[.int .i64 6, .int .i64 byte], .bool was] w (ChangePost w b (actD 6 byte was d) bv place begun hv) := by
  by_cases hc : 0 < d.a
  · have hE := Lib.hid (fun w' => fun (hw : Box w' b (edC d bv place begun hv)) => erase_any d bv hv place begun b (d.a - 1) (d.a) w' hw (by omega) (by omega) ht)
    have hfin : actD 6 byte was d = eraD (d.a - 1) d.a d := by simp [actD, hc]
    rw [hfin]
    clear hfin
    have hT := box_key h (.cells #[.int .i64 6, .int .i64 byte] 42)
    have HT := Lib.hid hT
    obtain ⟨cc, zz⟩ := hT.2.cell
    have e1 : IntKind.i64.wrap ((d.a : Int) - 1) = ((d.a - 1 : Nat) : Int) := by rw [IntWalk.i64_in _ (by omega)]; omega
    clear hT h
    go_enter Tryz.func37, Tryz.ntmps37
    go_wp2_with fail
    generalize w.alloc (.cells #[.int .i64 6, .int .i64 byte] 42) = w1 at *
    go_still_tail 12, (by kernel_rfl)
    go_wp2_with fail
    refine (hE.out _ HT.out.drew.2).mono ?_
    rintro e w' ⟨rfl, hT2⟩
    go_wp2
    go_end0
    exact ⟨rfl, HT.out.drew.trans hT2⟩
  · have hfin : actD 6 byte was d = d := by simp [actD, hc]
    rw [hfin]
    clear hfin
    have hT := box_key h (.cells #[.int .i64 6, .int .i64 byte] 42)
    have HT := Lib.hid hT
    obtain ⟨cc, zz⟩ := hT.2.cell
    clear hT h
    go_enter Tryz.func37, Tryz.ntmps37
    go_wp2
    go_end0
    exact ⟨rfl, HT.out⟩


set_option maxRecDepth 100000 in
set_option maxHeartbeats 3200000 in
theorem change_7 (d : ED) (byte : Int) (was : Bool) (bv hv : Value) (place : Int) (begun : ByteArray) (b : Nat) (w : World) (h : Box w b (edC d bv place begun hv)) (ha : d.a ≤ d.text.size) (ht : d.text.size ≤ 1000) (_hkl : d.killed.size ≤ 1000) :
    Calls Tryz.prog 37 #[.pointer (some ⟨b, 0, none⟩), .agg #[.int .i64 7, .int .i64 byte], .bool was] w (ChangePost w b (actD 7 byte was d) bv place begun hv) := by
  by_cases hc : d.a < d.text.size
  · have hE := Lib.hid (fun w' => fun (hw : Box w' b (edC d bv place begun hv)) => erase_any d bv hv place begun b (d.a) (d.a + 1) w' hw (by omega) (by omega) ht)
    have hfin : actD 7 byte was d = eraD d.a (d.a + 1) d := by simp [actD, hc]
    rw [hfin]
    clear hfin
    have hT := box_key h (.cells #[.int .i64 7, .int .i64 byte] 42)
    have HT := Lib.hid hT
    obtain ⟨cc, zz⟩ := hT.2.cell
    have e1 : IntKind.i64.wrap ((d.a : Int) + 1) = ((d.a + 1 : Nat) : Int) := by rw [IntWalk.i64_in _ (by omega)]; omega
    clear hT h
    go_enter Tryz.func37, Tryz.ntmps37
    go_wp2_with fail
    generalize w.alloc (.cells #[.int .i64 7, .int .i64 byte] 42) = w1 at *
    go_quiet (fail)
    go_wp2_with fail
    have hT2 := HT.out.drewN nq
    have HT2 := Lib.hid hT2
    generalize w1.drewN nq = w2 at *
    obtain ⟨cc2, zz2⟩ := hT2.2.cell
    clear hT2
    go_still_tail 12, (by kernel_rfl)
    go_wp2_with fail
    refine (hE.out _ HT2.out.drew.2).mono ?_
    rintro e w' ⟨rfl, hT2⟩
    go_wp2
    go_end0
    exact ⟨rfl, HT2.out.drew.trans hT2⟩
  · have hfin : actD 7 byte was d = d := by simp [actD, hc]
    rw [hfin]
    clear hfin
    have hT := box_key h (.cells #[.int .i64 7, .int .i64 byte] 42)
    have HT := Lib.hid hT
    obtain ⟨cc, zz⟩ := hT.2.cell
    clear hT h
    go_enter Tryz.func37, Tryz.ntmps37
    go_wp2_with fail
    generalize w.alloc (.cells #[.int .i64 7, .int .i64 byte] 42) = w1 at *
    go_quiet (fail)
    go_wp2
    go_end0
    exact ⟨rfl, HT.out.drewN _⟩


set_option maxRecDepth 100000 in
set_option maxHeartbeats 3200000 in
theorem change_8 (d : ED) (byte : Int) (was : Bool) (bv hv : Value) (place : Int) (begun : ByteArray) (b : Nat) (w : World) (h : Box w b (edC d bv place begun hv)) (ha : d.a ≤ d.text.size) (ht : d.text.size ≤ 1000) (_hkl : d.killed.size ≤ 1000) :
    Calls Tryz.prog 37 #[.pointer (some ⟨b, 0, none⟩), .agg #[.int .i64 8, .int .i64 byte], .bool was] w (ChangePost w b (actD 8 byte was d) bv place begun hv) := by
  have hE := Lib.hid (fun w' => fun (hw : Box w' b (edC d bv place begun hv)) => kill_any d bv hv place begun was b (d.a) (d.text.size) w' hw (by omega) (by omega) ht _hkl)
  have hfin : actD 8 byte was d = killD d.a d.text.size was d := by simp [actD]
  rw [hfin]
  clear hfin
  have hT := box_key h (.cells #[.int .i64 8, .int .i64 byte] 42)
  have HT := Lib.hid hT
  obtain ⟨cc, zz⟩ := hT.2.cell
  clear hT h
  go_enter Tryz.func37, Tryz.ntmps37
  go_wp2_with fail
  generalize w.alloc (.cells #[.int .i64 8, .int .i64 byte] 42) = w1 at *
  go_still_tail 13, (by kernel_rfl)
  go_wp2_with fail
  refine (hE.out _ HT.out.drew.2).mono ?_
  rintro e w' ⟨rfl, hT2⟩
  go_wp2
  go_end0
  exact ⟨rfl, HT.out.drew.trans hT2⟩


set_option maxRecDepth 100000 in
set_option maxHeartbeats 3200000 in
theorem change_9 (d : ED) (byte : Int) (was : Bool) (bv hv : Value) (place : Int) (begun : ByteArray) (b : Nat) (w : World) (h : Box w b (edC d bv place begun hv)) (ha : d.a ≤ d.text.size) (ht : d.text.size ≤ 1000) (_hkl : d.killed.size ≤ 1000) :
    Calls Tryz.prog 37 #[.pointer (some ⟨b, 0, none⟩), .agg #[.int .i64 9, .int .i64 byte], .bool was] w (ChangePost w b (actD 9 byte was d) bv place begun hv) := by
  have hE := Lib.hid (fun w' => fun (hw : Box w' b (edC d bv place begun hv)) => kill_any d bv hv place begun was b (0) (d.a) w' hw (by omega) (by omega) ht _hkl)
  have hfin : actD 9 byte was d = killD 0 d.a was d := by simp [actD]
  rw [hfin]
  clear hfin
  have hT := box_key h (.cells #[.int .i64 9, .int .i64 byte] 42)
  have HT := Lib.hid hT
  obtain ⟨cc, zz⟩ := hT.2.cell
  clear hT h
  go_enter Tryz.func37, Tryz.ntmps37
  go_wp2_with fail
  refine (hE.out _ HT.out.2).mono ?_
  rintro e w' ⟨rfl, hT2⟩
  go_wp2
  go_end0
  exact ⟨rfl, HT.out.trans hT2⟩


set_option maxRecDepth 100000 in
set_option maxHeartbeats 3200000 in
theorem change_10 (d : ED) (byte : Int) (was : Bool) (bv hv : Value) (place : Int) (begun : ByteArray) (b : Nat) (w : World) (h : Box w b (edC d bv place begun hv)) (ha : d.a ≤ d.text.size) (ht : d.text.size ≤ 1000) (_hkl : d.killed.size ≤ 1000) :
    Calls Tryz.prog 37 #[.pointer (some ⟨b, 0, none⟩), .agg #[.int .i64 10, .int .i64 byte], .bool was] w (ChangePost w b (actD 10 byte was d) bv place begun hv) := by
  have hE := Lib.hid (fun w' => fun (hw : Box w' b (edC d bv place begun hv)) => kill_any d bv hv place begun was b (backW d.text d.a) (d.a) w' hw (by exact backW_le _ _) (by omega) ht _hkl)
  have hfin : actD 10 byte was d = killD (backW d.text d.a) d.a was d := by simp [actD]
  rw [hfin]
  clear hfin
  have hT := box_key h (.cells #[.int .i64 10, .int .i64 byte] 42)
  have HT := Lib.hid hT
  obtain ⟨cc, zz⟩ := hT.2.cell
  clear hT h
  go_enter Tryz.func37, Tryz.ntmps37
  go_wp2_with fail
  generalize w.alloc (.cells #[.int .i64 10, .int .i64 byte] 42) = w1 at *
  go_still_tail 9, (by kernel_rfl)
  still_call ((backWord_any d bv hv place begun b _ HT.out.drew.2 ha ht).mono fun _ _ hh => ⟨hh.1, hh.2.symm⟩)
  repeat still_step
  refine wpStill_nil ?_
  go_wp2_with fail
  refine (hE.out _ HT.out.drew.2).mono ?_
  rintro e w' ⟨rfl, hT2⟩
  go_wp2
  go_end0
  exact ⟨rfl, HT.out.drew.trans hT2⟩


set_option maxRecDepth 100000 in
set_option maxHeartbeats 3200000 in
theorem change_11 (d : ED) (byte : Int) (was : Bool) (bv hv : Value) (place : Int) (begun : ByteArray) (b : Nat) (w : World) (h : Box w b (edC d bv place begun hv)) (ha : d.a ≤ d.text.size) (ht : d.text.size ≤ 1000) (_hkl : d.killed.size ≤ 1000) :
    Calls Tryz.prog 37 #[.pointer (some ⟨b, 0, none⟩), .agg #[.int .i64 11, .int .i64 byte], .bool was] w (ChangePost w b (actD 11 byte was d) bv place begun hv) := by
  have hE := Lib.hid (fun w' => fun (hw : Box w' b (edC d bv place begun hv)) => kill_any d bv hv place begun was b (d.a) (nextW d.text d.a) w' hw (by exact nextW_ge _ _) (by exact nextW_le _ _ ha) ht _hkl)
  have hfin : actD 11 byte was d = killD d.a (nextW d.text d.a) was d := by simp [actD]
  rw [hfin]
  clear hfin
  have hT := box_key h (.cells #[.int .i64 11, .int .i64 byte] 42)
  have HT := Lib.hid hT
  obtain ⟨cc, zz⟩ := hT.2.cell
  clear hT h
  go_enter Tryz.func37, Tryz.ntmps37
  go_wp2_with fail
  generalize w.alloc (.cells #[.int .i64 11, .int .i64 byte] 42) = w1 at *
  go_still_tail 9, (by kernel_rfl)
  still_call ((nextWord_any d bv hv place begun b _ HT.out.drew.2 ha ht).mono fun _ _ hh => ⟨hh.1, hh.2.symm⟩)
  repeat still_step
  refine wpStill_nil ?_
  go_wp2_with fail
  refine (hE.out _ HT.out.drew.2).mono ?_
  rintro e w' ⟨rfl, hT2⟩
  go_wp2
  go_end0
  exact ⟨rfl, HT.out.drew.trans hT2⟩


set_option maxRecDepth 100000 in
set_option maxHeartbeats 3200000 in
theorem change_12 (d : ED) (byte : Int) (was : Bool) (bv hv : Value) (place : Int) (begun : ByteArray) (b : Nat) (w : World) (h : Box w b (edC d bv place begun hv)) (ha : d.a ≤ d.text.size) (ht : d.text.size ≤ 1000) (_hkl : d.killed.size ≤ 1000) :
    Calls Tryz.prog 37 #[.pointer (some ⟨b, 0, none⟩), .agg #[.int .i64 12, .int .i64 byte], .bool was] w (ChangePost w b (actD 12 byte was d) bv place begun hv) := by
  have hE := Lib.hid (fun w' => fun (hw : Box w' b (edC d bv place begun hv)) => insert_any d bv hv place begun d.killed b w' hw ha ht _hkl)
  have hfin : actD 12 byte was d = insD d.killed d := by simp [actD]
  rw [hfin]
  clear hfin
  have hT := box_key h (.cells #[.int .i64 12, .int .i64 byte] 42)
  have HT := Lib.hid hT
  obtain ⟨cc, zz⟩ := hT.2.cell
  clear hT h
  go_enter Tryz.func37, Tryz.ntmps37
  go_wp2_with fail
  refine (hE.out _ HT.out.2).mono ?_
  rintro e w' ⟨rfl, hT2⟩
  go_wp2
  go_end0
  exact ⟨rfl, HT.out.trans hT2⟩


set_option maxRecDepth 100000 in
set_option maxHeartbeats 3200000 in
theorem change_13 (d : ED) (byte : Int) (was : Bool) (bv hv : Value) (place : Int) (begun : ByteArray) (b : Nat) (w : World) (h : Box w b (edC d bv place begun hv)) (ha : d.a ≤ d.text.size) (ht : d.text.size ≤ 1000) (_hkl : d.killed.size ≤ 1000) :
    Calls Tryz.prog 37 #[.pointer (some ⟨b, 0, none⟩), .agg #[.int .i64 13, .int .i64 byte], .bool was] w (ChangePost w b (actD 13 byte was d) bv place begun hv) := by
  have hE := Lib.hid (fun w' => fun (hw : Box w' b (edC d bv place begun hv)) => swap_any d bv hv place begun b w' hw ha ht)
  have hfin : actD 13 byte was d = swapD d := by simp [actD]
  rw [hfin]
  clear hfin
  have hT := box_key h (.cells #[.int .i64 13, .int .i64 byte] 42)
  have HT := Lib.hid hT
  obtain ⟨cc, zz⟩ := hT.2.cell
  clear hT h
  go_enter Tryz.func37, Tryz.ntmps37
  go_wp2_with fail
  refine (hE.out _ HT.out.2).mono ?_
  rintro e w' ⟨rfl, hT2⟩
  go_wp2
  go_end0
  exact ⟨rfl, HT.out.trans hT2⟩


set_option maxRecDepth 100000 in
set_option maxHeartbeats 3200000 in
theorem change_16 (d : ED) (byte : Int) (was : Bool) (bv hv : Value) (place : Int) (begun : ByteArray) (b : Nat) (w : World) (h : Box w b (edC d bv place begun hv)) (ha : d.a ≤ d.text.size) (ht : d.text.size ≤ 1000) (_hkl : d.killed.size ≤ 1000) :
    Calls Tryz.prog 37 #[.pointer (some ⟨b, 0, none⟩), .agg #[.int .i64 16, .int .i64 byte], .bool was] w (ChangePost w b (actD 16 byte was d) bv place begun hv) := by
  have hE := Lib.hid (fun w' => fun (hw : Box w' b (edC d bv place begun hv)) => letters_any d 16 bv hv place begun b w' hw ha ht)
  have hfin : actD 16 byte was d = lettersD 16 d := by simp [actD]
  rw [hfin]
  clear hfin
  have hT := box_key h (.cells #[.int .i64 16, .int .i64 byte] 42)
  have HT := Lib.hid hT
  obtain ⟨cc, zz⟩ := hT.2.cell
  have ck := (two_cells w (.int .i64 16) (.int .i64 byte) 42).1
  clear hT h
  go_enter Tryz.func37, Tryz.ntmps37
  go_wp2_with fail
  refine (hE.out _ HT.out.2).mono ?_
  rintro e w' ⟨rfl, hT2⟩
  go_wp2
  go_end0
  exact ⟨rfl, HT.out.trans hT2⟩


set_option maxRecDepth 100000 in
set_option maxHeartbeats 3200000 in
theorem change_17 (d : ED) (byte : Int) (was : Bool) (bv hv : Value) (place : Int) (begun : ByteArray) (b : Nat) (w : World) (h : Box w b (edC d bv place begun hv)) (ha : d.a ≤ d.text.size) (ht : d.text.size ≤ 1000) (_hkl : d.killed.size ≤ 1000) :
    Calls Tryz.prog 37 #[.pointer (some ⟨b, 0, none⟩), .agg #[.int .i64 17, .int .i64 byte], .bool was] w (ChangePost w b (actD 17 byte was d) bv place begun hv) := by
  have hE := Lib.hid (fun w' => fun (hw : Box w' b (edC d bv place begun hv)) => letters_any d 17 bv hv place begun b w' hw ha ht)
  have hfin : actD 17 byte was d = lettersD 17 d := by simp [actD]
  rw [hfin]
  clear hfin
  have hT := box_key h (.cells #[.int .i64 17, .int .i64 byte] 42)
  have HT := Lib.hid hT
  obtain ⟨cc, zz⟩ := hT.2.cell
  have ck := (two_cells w (.int .i64 17) (.int .i64 byte) 42).1
  clear hT h
  go_enter Tryz.func37, Tryz.ntmps37
  go_wp2_with fail
  refine (hE.out _ HT.out.2).mono ?_
  rintro e w' ⟨rfl, hT2⟩
  go_wp2
  go_end0
  exact ⟨rfl, HT.out.trans hT2⟩


set_option maxRecDepth 100000 in
set_option maxHeartbeats 3200000 in
theorem change_18 (d : ED) (byte : Int) (was : Bool) (bv hv : Value) (place : Int) (begun : ByteArray) (b : Nat) (w : World) (h : Box w b (edC d bv place begun hv)) (ha : d.a ≤ d.text.size) (ht : d.text.size ≤ 1000) (_hkl : d.killed.size ≤ 1000) :
    Calls Tryz.prog 37 #[.pointer (some ⟨b, 0, none⟩), .agg #[.int .i64 18, .int .i64 byte], .bool was] w (ChangePost w b (actD 18 byte was d) bv place begun hv) := by
  have hE := Lib.hid (fun w' => fun (hw : Box w' b (edC d bv place begun hv)) => letters_any d 18 bv hv place begun b w' hw ha ht)
  have hfin : actD 18 byte was d = lettersD 18 d := by simp [actD]
  rw [hfin]
  clear hfin
  have hT := box_key h (.cells #[.int .i64 18, .int .i64 byte] 42)
  have HT := Lib.hid hT
  obtain ⟨cc, zz⟩ := hT.2.cell
  have ck := (two_cells w (.int .i64 18) (.int .i64 byte) 42).1
  clear hT h
  go_enter Tryz.func37, Tryz.ntmps37
  go_wp2_with fail
  refine (hE.out _ HT.out.2).mono ?_
  rintro e w' ⟨rfl, hT2⟩
  go_wp2
  go_end0
  exact ⟨rfl, HT.out.trans hT2⟩


end Go.Proofs.YtokmiommhfbkeaaGreatDoor
