/- The reference's editor, on its line behind a pointer: what each key does. -/
import Derived.Test.YtokmiommhfbkeaaGreatDoorRefL
import Derived.Test.YtokmiommhfbkeaaGreatDoorEditC
import Derived.Test.YtokmiommhfbkeaaGreatDoorEditM
import Derived.BigRegion
namespace Go.Proofs.YtokmiommhfbkeaaGreatDoor
open Go.RowKit

def RChangePost (w : World) (b : Nat) (d : ED) (bv : Value) (place : Int) (begun : ByteArray) (e : Ending) (w' : World) : Prop :=
  e = .returned (.tuple #[]) ∧ RTurned w b (rlC d bv place begun) w'
theorem rbox_key {w : World} {b : Nat} {cs : Array Value} (h : RBox w b cs) (o : Obj) : RTurned w b cs (w.alloc o) := (RTurned.refl h).alloc o

set_option maxRecDepth 100000 in
set_option maxHeartbeats 3200000 in
theorem rpress_2 (d : ED) (byte : Int) (was : Bool) (bv : Value) (place : Int) (begun : ByteArray) (b : Nat) (w : World) (h : RBox w b (rlC d bv place begun)) (ha : d.a ≤ d.text.size) (ht : d.text.size ≤ 1000) (_hkl : d.killed.size ≤ 1000) :
    Calls Tryz.prog 41 #[.pointer (some ⟨b, 0, none⟩), .agg #[.int .i64 2, .int .i64 byte], .bool was] w (RChangePost w b (actD 2 byte was d) bv place begun) := by
  by_cases hc : d.a = 0
  · have hfin : actD 2 byte was d = { d with a := 0 } := by simp [actD, hc]
    rw [hfin]
    clear hfin
    obtain ⟨text, a, killed, killing⟩ := d
    dsimp only at *
    have hT := rbox_key h (.cells #[.int .i64 2, .int .i64 byte] 42)
    have HT := Lib.hid hT
    obtain ⟨cc, zz⟩ := hT.2.cell
    have ck := (two_cells w (.int .i64 2) (.int .i64 byte) 42).1
    have e1 : IntKind.i64.wrap ((a : Int) - 1) = -1 := by rw [IntWalk.i64_in _ (by omega)]; omega
    have e2 : ¬ (0 : Int) ≤ -1 := by omega
    clear hT h
    go_enter Tryz.func41, Tryz.ntmps41
    go_wp2_with fail
    generalize w.alloc (.cells #[.int .i64 2, .int .i64 byte] 42) = w1 at *
    go_quiet (fail)
    have HQ := Lib.hid (HT.out.drewN nq)
    have ck2 : (w1.drewN nq).cell? ⟨w.heap.size, 0, none⟩ = some (.int .i64 2) := ck
    clear cc zz ck
    generalize w1.drewN nq = w2 at *
    obtain ⟨cc, zz⟩ := HQ.out.2.cell
    go_wp2
    go_end0
    exact ⟨rfl, HQ.out.set 1 _⟩
  · have hfin : actD 2 byte was d = { d with a := d.a - 1 } := by simp [actD]
    rw [hfin]
    clear hfin
    obtain ⟨text, a, killed, killing⟩ := d
    dsimp only at *
    have hT := rbox_key h (.cells #[.int .i64 2, .int .i64 byte] 42)
    have HT := Lib.hid hT
    obtain ⟨cc, zz⟩ := hT.2.cell
    have ck := (two_cells w (.int .i64 2) (.int .i64 byte) 42).1
    have e1 : IntKind.i64.wrap ((a : Int) - 1) = ((a - 1 : Nat) : Int) := by rw [IntWalk.i64_in _ (by omega)]; omega
    clear hT h
    go_enter Tryz.func41, Tryz.ntmps41
    go_wp2_with fail
    generalize w.alloc (.cells #[.int .i64 2, .int .i64 byte] 42) = w1 at *
    go_quiet (fail)
    have HQ := Lib.hid (HT.out.drewN nq)
    have ck2 : (w1.drewN nq).cell? ⟨w.heap.size, 0, none⟩ = some (.int .i64 2) := ck
    clear cc zz ck
    generalize w1.drewN nq = w2 at *
    obtain ⟨cc, zz⟩ := HQ.out.2.cell
    go_wp2
    go_end0
    exact ⟨rfl, HQ.out.set 1 _⟩


set_option maxRecDepth 100000 in
set_option maxHeartbeats 3200000 in
theorem rpress_3 (d : ED) (byte : Int) (was : Bool) (bv : Value) (place : Int) (begun : ByteArray) (b : Nat) (w : World) (h : RBox w b (rlC d bv place begun)) (ha : d.a ≤ d.text.size) (ht : d.text.size ≤ 1000) (_hkl : d.killed.size ≤ 1000) :
    Calls Tryz.prog 41 #[.pointer (some ⟨b, 0, none⟩), .agg #[.int .i64 3, .int .i64 byte], .bool was] w (RChangePost w b (actD 3 byte was d) bv place begun) := by
  by_cases hc : d.a < d.text.size
  · have hfin : actD 3 byte was d = { d with a := d.a + 1 } := by simp only [actD]; simp; omega
    rw [hfin]
    clear hfin
    obtain ⟨text, a, killed, killing⟩ := d
    dsimp only at *
    have hT := rbox_key h (.cells #[.int .i64 3, .int .i64 byte] 42)
    have HT := Lib.hid hT
    obtain ⟨cc, zz⟩ := hT.2.cell
    have ck := (two_cells w (.int .i64 3) (.int .i64 byte) 42).1
    have hd := Lib.hid (show min ((a : Int) + 1) (text.size : Int) = ((a + 1 : Nat) : Int) by omega)
    clear hT h
    go_enter Tryz.func41, Tryz.ntmps41
    go_wp2_with fail
    generalize w.alloc (.cells #[.int .i64 3, .int .i64 byte] 42) = w1 at *
    go_quiet (fail)
    have HQ := Lib.hid (HT.out.drewN nq)
    have ck2 : (w1.drewN nq).cell? ⟨w.heap.size, 0, none⟩ = some (.int .i64 3) := ck
    clear cc zz ck
    generalize w1.drewN nq = w2 at *
    obtain ⟨cc, zz⟩ := HQ.out.2.cell
    go_wp2
    go_end0
    rw [hd.out]
    exact ⟨rfl, HQ.out.set 1 _⟩
  · have hfin : actD 3 byte was d = { d with a := d.text.size } := by simp only [actD]; simp; omega
    rw [hfin]
    clear hfin
    obtain ⟨text, a, killed, killing⟩ := d
    dsimp only at *
    have hT := rbox_key h (.cells #[.int .i64 3, .int .i64 byte] 42)
    have HT := Lib.hid hT
    obtain ⟨cc, zz⟩ := hT.2.cell
    have ck := (two_cells w (.int .i64 3) (.int .i64 byte) 42).1
    have hd := Lib.hid (show min ((a : Int) + 1) (text.size : Int) = (text.size : Int) by omega)
    clear hT h
    go_enter Tryz.func41, Tryz.ntmps41
    go_wp2_with fail
    generalize w.alloc (.cells #[.int .i64 3, .int .i64 byte] 42) = w1 at *
    go_quiet (fail)
    have HQ := Lib.hid (HT.out.drewN nq)
    have ck2 : (w1.drewN nq).cell? ⟨w.heap.size, 0, none⟩ = some (.int .i64 3) := ck
    clear cc zz ck
    generalize w1.drewN nq = w2 at *
    obtain ⟨cc, zz⟩ := HQ.out.2.cell
    go_wp2
    go_end0
    rw [hd.out]
    exact ⟨rfl, HQ.out.set 1 _⟩


set_option maxRecDepth 100000 in
set_option maxHeartbeats 3200000 in
theorem rpress_4 (d : ED) (byte : Int) (was : Bool) (bv : Value) (place : Int) (begun : ByteArray) (b : Nat) (w : World) (h : RBox w b (rlC d bv place begun)) (ha : d.a ≤ d.text.size) (ht : d.text.size ≤ 1000) (_hkl : d.killed.size ≤ 1000) :
    Calls Tryz.prog 41 #[.pointer (some ⟨b, 0, none⟩), .agg #[.int .i64 4, .int .i64 byte], .bool was] w (RChangePost w b (actD 4 byte was d) bv place begun) := by
  have hfin : actD 4 byte was d = { d with a := 0 } := by simp [actD]
  rw [hfin]
  clear hfin
  obtain ⟨text, a, killed, killing⟩ := d
  dsimp only at *
  have hT := rbox_key h (.cells #[.int .i64 4, .int .i64 byte] 42)
  have HT := Lib.hid hT
  obtain ⟨cc, zz⟩ := hT.2.cell
  have ck := (two_cells w (.int .i64 4) (.int .i64 byte) 42).1
  clear hT h
  go_enter Tryz.func41, Tryz.ntmps41
  go_wp2_with fail
  generalize w.alloc (.cells #[.int .i64 4, .int .i64 byte] 42) = w1 at *
  go_quiet (fail)
  have HQ := Lib.hid (HT.out.drewN nq)
  have ck2 : (w1.drewN nq).cell? ⟨w.heap.size, 0, none⟩ = some (.int .i64 4) := ck
  clear cc zz ck
  generalize w1.drewN nq = w2 at *
  obtain ⟨cc, zz⟩ := HQ.out.2.cell
  go_wp2
  go_end0
  exact ⟨rfl, HQ.out.set 1 _⟩


set_option maxRecDepth 100000 in
set_option maxHeartbeats 3200000 in
theorem rpress_5 (d : ED) (byte : Int) (was : Bool) (bv : Value) (place : Int) (begun : ByteArray) (b : Nat) (w : World) (h : RBox w b (rlC d bv place begun)) (ha : d.a ≤ d.text.size) (ht : d.text.size ≤ 1000) (_hkl : d.killed.size ≤ 1000) :
    Calls Tryz.prog 41 #[.pointer (some ⟨b, 0, none⟩), .agg #[.int .i64 5, .int .i64 byte], .bool was] w (RChangePost w b (actD 5 byte was d) bv place begun) := by
  have hfin : actD 5 byte was d = { d with a := d.text.size } := by simp [actD]
  rw [hfin]
  clear hfin
  obtain ⟨text, a, killed, killing⟩ := d
  dsimp only at *
  have hT := rbox_key h (.cells #[.int .i64 5, .int .i64 byte] 42)
  have HT := Lib.hid hT
  obtain ⟨cc, zz⟩ := hT.2.cell
  have ck := (two_cells w (.int .i64 5) (.int .i64 byte) 42).1
  clear hT h
  go_enter Tryz.func41, Tryz.ntmps41
  go_wp2_with fail
  generalize w.alloc (.cells #[.int .i64 5, .int .i64 byte] 42) = w1 at *
  go_quiet (fail)
  have HQ := Lib.hid (HT.out.drewN nq)
  have ck2 : (w1.drewN nq).cell? ⟨w.heap.size, 0, none⟩ = some (.int .i64 5) := ck
  clear cc zz ck
  generalize w1.drewN nq = w2 at *
  obtain ⟨cc, zz⟩ := HQ.out.2.cell
  go_wp2
  go_end0
  exact ⟨rfl, HQ.out.set 1 _⟩


set_option maxRecDepth 100000 in
set_option maxHeartbeats 3200000 in
theorem rpress_14 (d : ED) (byte : Int) (was : Bool) (bv : Value) (place : Int) (begun : ByteArray) (b : Nat) (w : World) (h : RBox w b (rlC d bv place begun)) (ha : d.a ≤ d.text.size) (ht : d.text.size ≤ 1000) (_hkl : d.killed.size ≤ 1000) :
    Calls Tryz.prog 41 #[.pointer (some ⟨b, 0, none⟩), .agg #[.int .i64 14, .int .i64 byte], .bool was] w (RChangePost w b (actD 14 byte was d) bv place begun) := by
  have hfin : actD 14 byte was d = { d with a := backW d.text d.a } := by simp [actD]
  rw [hfin]
  clear hfin
  obtain ⟨text, a, killed, killing⟩ := d
  dsimp only at *
  have hT := rbox_key h (.cells #[.int .i64 14, .int .i64 byte] 42)
  have HT := Lib.hid hT
  obtain ⟨cc, zz⟩ := hT.2.cell
  have ck := (two_cells w (.int .i64 14) (.int .i64 byte) 42).1
  clear hT h
  go_enter Tryz.func41, Tryz.ntmps41
  go_wp2_with fail
  generalize w.alloc (.cells #[.int .i64 14, .int .i64 byte] 42) = w1 at *
  go_quiet (fail)
  have HQ := Lib.hid (HT.out.drewN nq)
  have ck2 : (w1.drewN nq).cell? ⟨w.heap.size, 0, none⟩ = some (.int .i64 14) := ck
  clear cc zz ck
  generalize w1.drewN nq = w2 at *
  obtain ⟨cc, zz⟩ := HQ.out.2.cell
  go_wp2_with fail
  refine (rbackWord_any text a _ ha ht).mono ?_
  rintro e w' ⟨rfl, rfl⟩
  go_wp2
  go_end0
  exact ⟨rfl, HQ.out.set 1 _⟩


set_option maxRecDepth 100000 in
set_option maxHeartbeats 3200000 in
theorem rpress_15 (d : ED) (byte : Int) (was : Bool) (bv : Value) (place : Int) (begun : ByteArray) (b : Nat) (w : World) (h : RBox w b (rlC d bv place begun)) (ha : d.a ≤ d.text.size) (ht : d.text.size ≤ 1000) (_hkl : d.killed.size ≤ 1000) :
    Calls Tryz.prog 41 #[.pointer (some ⟨b, 0, none⟩), .agg #[.int .i64 15, .int .i64 byte], .bool was] w (RChangePost w b (actD 15 byte was d) bv place begun) := by
  have hfin : actD 15 byte was d = { d with a := nextW d.text d.a } := by simp [actD]
  rw [hfin]
  clear hfin
  obtain ⟨text, a, killed, killing⟩ := d
  dsimp only at *
  have hT := rbox_key h (.cells #[.int .i64 15, .int .i64 byte] 42)
  have HT := Lib.hid hT
  obtain ⟨cc, zz⟩ := hT.2.cell
  have ck := (two_cells w (.int .i64 15) (.int .i64 byte) 42).1
  clear hT h
  go_enter Tryz.func41, Tryz.ntmps41
  go_wp2_with fail
  generalize w.alloc (.cells #[.int .i64 15, .int .i64 byte] 42) = w1 at *
  go_quiet (fail)
  have HQ := Lib.hid (HT.out.drewN nq)
  have ck2 : (w1.drewN nq).cell? ⟨w.heap.size, 0, none⟩ = some (.int .i64 15) := ck
  clear cc zz ck
  generalize w1.drewN nq = w2 at *
  obtain ⟨cc, zz⟩ := HQ.out.2.cell
  go_wp2_with fail
  refine (rnextWord_any text a _ ha ht).mono ?_
  rintro e w' ⟨rfl, rfl⟩
  go_wp2
  go_end0
  exact ⟨rfl, HQ.out.set 1 _⟩


set_option maxRecDepth 100000 in
set_option maxHeartbeats 3200000 in
theorem rpress_6 (d : ED) (byte : Int) (was : Bool) (bv : Value) (place : Int) (begun : ByteArray) (b : Nat) (w : World) (h : RBox w b (rlC d bv place begun)) (ha : d.a ≤ d.text.size) (ht : d.text.size ≤ 1000) (_hkl : d.killed.size ≤ 1000) :
    Calls Tryz.prog 41 #[.pointer (some ⟨b, 0, none⟩), .agg #[.int .i64 6, .int .i64 byte], .bool was] w (RChangePost w b (actD 6 byte was d) bv place begun) := by
  by_cases hc : 0 < d.a
  · have hfin : actD 6 byte was d = eraD (d.a - 1) d.a d := by simp [actD, hc]
    rw [hfin]
    clear hfin
    obtain ⟨text, a, killed, killing⟩ := d
    dsimp only at *
    have hT := rbox_key h (.cells #[.int .i64 6, .int .i64 byte] 42)
    have HT := Lib.hid hT
    obtain ⟨cc, zz⟩ := hT.2.cell
    have ck := (two_cells w (.int .i64 6) (.int .i64 byte) 42).1
    have e1 : IntKind.i64.wrap ((a : Int) - 1) = ((a - 1 : Nat) : Int) := by rw [IntWalk.i64_in _ (by omega)]; omega
    have g0 : ¬ 9223372036854775807 < a - 1 + (text.size - a) := by omega
    have g1 : a - 1 ≤ text.size := by omega
    clear hT h
    go_enter Tryz.func41, Tryz.ntmps41
    go_wp2_with fail
    generalize w.alloc (.cells #[.int .i64 6, .int .i64 byte] 42) = w1 at *
    go_quiet (fail)
    have HQ := Lib.hid (HT.out.drewN nq)
    have ck2 : (w1.drewN nq).cell? ⟨w.heap.size, 0, none⟩ = some (.int .i64 6) := ck
    clear cc zz ck
    generalize w1.drewN nq = w2 at *
    obtain ⟨cc, zz⟩ := HQ.out.2.cell
    go_wp2_with fail
    go_region
    go_wp2
    go_end0
    exact ⟨rfl, ((HQ.out.set 0 _).set 1 _).drew⟩
  · have hfin : actD 6 byte was d = d := by simp [actD, hc]
    rw [hfin]
    clear hfin
    obtain ⟨text, a, killed, killing⟩ := d
    dsimp only at *
    have hT := rbox_key h (.cells #[.int .i64 6, .int .i64 byte] 42)
    have HT := Lib.hid hT
    obtain ⟨cc, zz⟩ := hT.2.cell
    have ck := (two_cells w (.int .i64 6) (.int .i64 byte) 42).1
    clear hT h
    go_enter Tryz.func41, Tryz.ntmps41
    go_wp2_with fail
    generalize w.alloc (.cells #[.int .i64 6, .int .i64 byte] 42) = w1 at *
    go_quiet (fail)
    have HQ := Lib.hid (HT.out.drewN nq)
    have ck2 : (w1.drewN nq).cell? ⟨w.heap.size, 0, none⟩ = some (.int .i64 6) := ck
    clear cc zz ck
    generalize w1.drewN nq = w2 at *
    obtain ⟨cc, zz⟩ := HQ.out.2.cell
    go_wp2
    go_end0
    exact ⟨rfl, HQ.out⟩


set_option maxRecDepth 100000 in
set_option maxHeartbeats 3200000 in
theorem rpress_7 (d : ED) (byte : Int) (was : Bool) (bv : Value) (place : Int) (begun : ByteArray) (b : Nat) (w : World) (h : RBox w b (rlC d bv place begun)) (ha : d.a ≤ d.text.size) (ht : d.text.size ≤ 1000) (_hkl : d.killed.size ≤ 1000) :
    Calls Tryz.prog 41 #[.pointer (some ⟨b, 0, none⟩), .agg #[.int .i64 7, .int .i64 byte], .bool was] w (RChangePost w b (actD 7 byte was d) bv place begun) := by
  by_cases hc : d.a < d.text.size
  · have hfin : actD 7 byte was d = eraD d.a (d.a + 1) d := by simp [actD, hc]
    rw [hfin]
    clear hfin
    obtain ⟨text, a, killed, killing⟩ := d
    dsimp only at *
    have hT := rbox_key h (.cells #[.int .i64 7, .int .i64 byte] 42)
    have HT := Lib.hid hT
    obtain ⟨cc, zz⟩ := hT.2.cell
    have ck := (two_cells w (.int .i64 7) (.int .i64 byte) 42).1
    have e1 : IntKind.i64.wrap ((a : Int) + 1) = ((a + 1 : Nat) : Int) := by rw [IntWalk.i64_in _ (by omega)]; omega
    have g0 : ¬ 9223372036854775807 < a + (text.size - (a + 1)) := by omega
    clear hT h
    go_enter Tryz.func41, Tryz.ntmps41
    go_wp2_with fail
    generalize w.alloc (.cells #[.int .i64 7, .int .i64 byte] 42) = w1 at *
    go_quiet (fail)
    have HQ := Lib.hid (HT.out.drewN nq)
    have ck2 : (w1.drewN nq).cell? ⟨w.heap.size, 0, none⟩ = some (.int .i64 7) := ck
    clear cc zz ck
    generalize w1.drewN nq = w2 at *
    obtain ⟨cc, zz⟩ := HQ.out.2.cell
    go_wp2_with fail
    go_region
    go_wp2
    go_end0
    exact ⟨rfl, (HQ.out.set 0 _).drew⟩
  · have hfin : actD 7 byte was d = d := by simp [actD, hc]
    rw [hfin]
    clear hfin
    obtain ⟨text, a, killed, killing⟩ := d
    dsimp only at *
    have hT := rbox_key h (.cells #[.int .i64 7, .int .i64 byte] 42)
    have HT := Lib.hid hT
    obtain ⟨cc, zz⟩ := hT.2.cell
    have ck := (two_cells w (.int .i64 7) (.int .i64 byte) 42).1
    clear hT h
    go_enter Tryz.func41, Tryz.ntmps41
    go_wp2_with fail
    generalize w.alloc (.cells #[.int .i64 7, .int .i64 byte] 42) = w1 at *
    go_quiet (fail)
    have HQ := Lib.hid (HT.out.drewN nq)
    have ck2 : (w1.drewN nq).cell? ⟨w.heap.size, 0, none⟩ = some (.int .i64 7) := ck
    clear cc zz ck
    generalize w1.drewN nq = w2 at *
    obtain ⟨cc, zz⟩ := HQ.out.2.cell
    go_wp2
    go_end0
    exact ⟨rfl, HQ.out⟩


set_option maxRecDepth 100000 in
set_option maxHeartbeats 3200000 in
theorem rpress_8 (d : ED) (byte : Int) (was : Bool) (bv : Value) (place : Int) (begun : ByteArray) (b : Nat) (w : World) (h : RBox w b (rlC d bv place begun)) (ha : d.a ≤ d.text.size) (ht : d.text.size ≤ 1000) (_hkl : d.killed.size ≤ 1000) :
    Calls Tryz.prog 41 #[.pointer (some ⟨b, 0, none⟩), .agg #[.int .i64 8, .int .i64 byte], .bool was] w (RChangePost w b (actD 8 byte was d) bv place begun) := by
  have hE := Lib.hid (fun w' => fun (hw : RBox w' b (rlC d bv place begun)) => rkill_any d bv place begun was false b (d.a) (d.text.size) w' hw (by omega) (by omega) ht _hkl (by by_cases hh : d.a = d.text.size; exact .inl hh; right; rw [decide_eq_true (by omega)]; rfl))
  have hfin : actD 8 byte was d = killD d.a d.text.size was d := by simp [actD]
  rw [hfin]
  clear hfin
  obtain ⟨text, a, killed, killing⟩ := d
  dsimp only at *
  have hT := rbox_key h (.cells #[.int .i64 8, .int .i64 byte] 42)
  have HT := Lib.hid hT
  obtain ⟨cc, zz⟩ := hT.2.cell
  have ck := (two_cells w (.int .i64 8) (.int .i64 byte) 42).1
  clear hT h
  go_enter Tryz.func41, Tryz.ntmps41
  go_wp2_with fail
  generalize w.alloc (.cells #[.int .i64 8, .int .i64 byte] 42) = w1 at *
  go_quiet (fail)
  have HQ := Lib.hid (HT.out.drewN nq)
  have ck2 : (w1.drewN nq).cell? ⟨w.heap.size, 0, none⟩ = some (.int .i64 8) := ck
  clear cc zz ck
  generalize w1.drewN nq = w2 at *
  obtain ⟨cc, zz⟩ := HQ.out.2.cell
  go_wp2_with fail
  refine (hE.out _ HQ.out.2).mono ?_
  rintro e w' ⟨rfl, hT2⟩
  go_wp2
  go_end0
  exact ⟨rfl, HQ.out.trans hT2⟩


set_option maxRecDepth 100000 in
set_option maxHeartbeats 3200000 in
theorem rpress_9 (d : ED) (byte : Int) (was : Bool) (bv : Value) (place : Int) (begun : ByteArray) (b : Nat) (w : World) (h : RBox w b (rlC d bv place begun)) (ha : d.a ≤ d.text.size) (ht : d.text.size ≤ 1000) (_hkl : d.killed.size ≤ 1000) :
    Calls Tryz.prog 41 #[.pointer (some ⟨b, 0, none⟩), .agg #[.int .i64 9, .int .i64 byte], .bool was] w (RChangePost w b (actD 9 byte was d) bv place begun) := by
  have hE := Lib.hid (fun w' => fun (hw : RBox w' b (rlC d bv place begun)) => rkill_any d bv place begun was true b (0) (d.a) w' hw (by omega) (by omega) ht _hkl (by right; rw [decide_eq_false (by omega)]; rfl))
  have hfin : actD 9 byte was d = killD 0 d.a was d := by simp [actD]
  rw [hfin]
  clear hfin
  obtain ⟨text, a, killed, killing⟩ := d
  dsimp only at *
  have hT := rbox_key h (.cells #[.int .i64 9, .int .i64 byte] 42)
  have HT := Lib.hid hT
  obtain ⟨cc, zz⟩ := hT.2.cell
  have ck := (two_cells w (.int .i64 9) (.int .i64 byte) 42).1
  clear hT h
  go_enter Tryz.func41, Tryz.ntmps41
  go_wp2_with fail
  generalize w.alloc (.cells #[.int .i64 9, .int .i64 byte] 42) = w1 at *
  go_quiet (fail)
  have HQ := Lib.hid (HT.out.drewN nq)
  have ck2 : (w1.drewN nq).cell? ⟨w.heap.size, 0, none⟩ = some (.int .i64 9) := ck
  clear cc zz ck
  generalize w1.drewN nq = w2 at *
  obtain ⟨cc, zz⟩ := HQ.out.2.cell
  go_wp2_with fail
  refine (hE.out _ HQ.out.2).mono ?_
  rintro e w' ⟨rfl, hT2⟩
  go_wp2
  go_end0
  exact ⟨rfl, HQ.out.trans hT2⟩


set_option maxRecDepth 100000 in
set_option maxHeartbeats 3200000 in
theorem rpress_10 (d : ED) (byte : Int) (was : Bool) (bv : Value) (place : Int) (begun : ByteArray) (b : Nat) (w : World) (h : RBox w b (rlC d bv place begun)) (ha : d.a ≤ d.text.size) (ht : d.text.size ≤ 1000) (_hkl : d.killed.size ≤ 1000) :
    Calls Tryz.prog 41 #[.pointer (some ⟨b, 0, none⟩), .agg #[.int .i64 10, .int .i64 byte], .bool was] w (RChangePost w b (actD 10 byte was d) bv place begun) := by
  have hE := Lib.hid (fun w' => fun (hw : RBox w' b (rlC d bv place begun)) => rkill_any d bv place begun was true b (backW d.text d.a) (d.a) w' hw (by exact backW_le _ _) (by omega) ht _hkl (by right; rw [decide_eq_false (by omega)]; rfl))
  have hfin : actD 10 byte was d = killD (backW d.text d.a) d.a was d := by simp [actD]
  rw [hfin]
  clear hfin
  obtain ⟨text, a, killed, killing⟩ := d
  dsimp only at *
  have hT := rbox_key h (.cells #[.int .i64 10, .int .i64 byte] 42)
  have HT := Lib.hid hT
  obtain ⟨cc, zz⟩ := hT.2.cell
  have ck := (two_cells w (.int .i64 10) (.int .i64 byte) 42).1
  clear hT h
  go_enter Tryz.func41, Tryz.ntmps41
  go_wp2_with fail
  generalize w.alloc (.cells #[.int .i64 10, .int .i64 byte] 42) = w1 at *
  go_quiet (fail)
  have HQ := Lib.hid (HT.out.drewN nq)
  have ck2 : (w1.drewN nq).cell? ⟨w.heap.size, 0, none⟩ = some (.int .i64 10) := ck
  clear cc zz ck
  generalize w1.drewN nq = w2 at *
  obtain ⟨cc, zz⟩ := HQ.out.2.cell
  go_wp2_with fail
  refine (rbackWord_any text a _ ha ht).mono ?_
  rintro e w' ⟨rfl, rfl⟩
  go_wp2_with fail
  refine (hE.out _ HQ.out.2).mono ?_
  rintro e w' ⟨rfl, hT2⟩
  go_wp2
  go_end0
  exact ⟨rfl, HQ.out.trans hT2⟩


set_option maxRecDepth 100000 in
set_option maxHeartbeats 3200000 in
theorem rpress_11 (d : ED) (byte : Int) (was : Bool) (bv : Value) (place : Int) (begun : ByteArray) (b : Nat) (w : World) (h : RBox w b (rlC d bv place begun)) (ha : d.a ≤ d.text.size) (ht : d.text.size ≤ 1000) (_hkl : d.killed.size ≤ 1000) :
    Calls Tryz.prog 41 #[.pointer (some ⟨b, 0, none⟩), .agg #[.int .i64 11, .int .i64 byte], .bool was] w (RChangePost w b (actD 11 byte was d) bv place begun) := by
  have hE := Lib.hid (fun w' => fun (hw : RBox w' b (rlC d bv place begun)) => rkill_any d bv place begun was false b (d.a) (nextW d.text d.a) w' hw (by exact nextW_ge _ _) (by exact nextW_le _ _ ha) ht _hkl (by have hn := nextW_ge d.text d.a; by_cases hh : d.a = nextW d.text d.a; exact .inl hh; right; rw [decide_eq_true (by omega)]; rfl))
  have hfin : actD 11 byte was d = killD d.a (nextW d.text d.a) was d := by simp [actD]
  rw [hfin]
  clear hfin
  obtain ⟨text, a, killed, killing⟩ := d
  dsimp only at *
  have hT := rbox_key h (.cells #[.int .i64 11, .int .i64 byte] 42)
  have HT := Lib.hid hT
  obtain ⟨cc, zz⟩ := hT.2.cell
  have ck := (two_cells w (.int .i64 11) (.int .i64 byte) 42).1
  clear hT h
  go_enter Tryz.func41, Tryz.ntmps41
  go_wp2_with fail
  generalize w.alloc (.cells #[.int .i64 11, .int .i64 byte] 42) = w1 at *
  go_quiet (fail)
  have HQ := Lib.hid (HT.out.drewN nq)
  have ck2 : (w1.drewN nq).cell? ⟨w.heap.size, 0, none⟩ = some (.int .i64 11) := ck
  clear cc zz ck
  generalize w1.drewN nq = w2 at *
  obtain ⟨cc, zz⟩ := HQ.out.2.cell
  go_wp2_with fail
  refine (rnextWord_any text a _ ha ht).mono ?_
  rintro e w' ⟨rfl, rfl⟩
  go_wp2_with fail
  refine (hE.out _ HQ.out.2).mono ?_
  rintro e w' ⟨rfl, hT2⟩
  go_wp2
  go_end0
  exact ⟨rfl, HQ.out.trans hT2⟩


set_option maxRecDepth 100000 in
set_option maxHeartbeats 3200000 in
theorem rpress_12 (d : ED) (byte : Int) (was : Bool) (bv : Value) (place : Int) (begun : ByteArray) (b : Nat) (w : World) (h : RBox w b (rlC d bv place begun)) (ha : d.a ≤ d.text.size) (ht : d.text.size ≤ 1000) (_hkl : d.killed.size ≤ 1000) :
    Calls Tryz.prog 41 #[.pointer (some ⟨b, 0, none⟩), .agg #[.int .i64 12, .int .i64 byte], .bool was] w (RChangePost w b (actD 12 byte was d) bv place begun) := by
  have hE := Lib.hid (fun w' => fun (hw : RBox w' b (rlC d bv place begun)) => rinsert_any d bv place begun d.killed b w' hw ha ht _hkl)
  have hfin : actD 12 byte was d = insD d.killed d := by simp [actD]
  rw [hfin]
  clear hfin
  obtain ⟨text, a, killed, killing⟩ := d
  dsimp only at *
  have hT := rbox_key h (.cells #[.int .i64 12, .int .i64 byte] 42)
  have HT := Lib.hid hT
  obtain ⟨cc, zz⟩ := hT.2.cell
  have ck := (two_cells w (.int .i64 12) (.int .i64 byte) 42).1
  clear hT h
  go_enter Tryz.func41, Tryz.ntmps41
  go_wp2_with fail
  generalize w.alloc (.cells #[.int .i64 12, .int .i64 byte] 42) = w1 at *
  go_quiet (fail)
  have HQ := Lib.hid (HT.out.drewN nq)
  have ck2 : (w1.drewN nq).cell? ⟨w.heap.size, 0, none⟩ = some (.int .i64 12) := ck
  clear cc zz ck
  generalize w1.drewN nq = w2 at *
  obtain ⟨cc, zz⟩ := HQ.out.2.cell
  go_wp2_with fail
  refine (hE.out _ HQ.out.2).mono ?_
  rintro e w' ⟨rfl, hT2⟩
  go_wp2
  go_end0
  exact ⟨rfl, HQ.out.trans hT2⟩


set_option maxRecDepth 100000 in
set_option maxHeartbeats 3200000 in
theorem rpress_16 (d : ED) (byte : Int) (was : Bool) (bv : Value) (place : Int) (begun : ByteArray) (b : Nat) (w : World) (h : RBox w b (rlC d bv place begun)) (ha : d.a ≤ d.text.size) (ht : d.text.size ≤ 1000) (_hkl : d.killed.size ≤ 1000) :
    Calls Tryz.prog 41 #[.pointer (some ⟨b, 0, none⟩), .agg #[.int .i64 16, .int .i64 byte], .bool was] w (RChangePost w b (actD 16 byte was d) bv place begun) := by
  have hE := Lib.hid (fun w' => fun (hw : RBox w' b (rlC d bv place begun)) => rletters_any d 16 bv place begun b w' hw ha ht)
  have hfin : actD 16 byte was d = lettersD 16 d := by simp [actD]
  rw [hfin]
  clear hfin
  obtain ⟨text, a, killed, killing⟩ := d
  dsimp only at *
  have hT := rbox_key h (.cells #[.int .i64 16, .int .i64 byte] 42)
  have HT := Lib.hid hT
  obtain ⟨cc, zz⟩ := hT.2.cell
  have ck := (two_cells w (.int .i64 16) (.int .i64 byte) 42).1
  clear hT h
  go_enter Tryz.func41, Tryz.ntmps41
  go_wp2_with fail
  generalize w.alloc (.cells #[.int .i64 16, .int .i64 byte] 42) = w1 at *
  go_quiet (fail)
  have HQ := Lib.hid (HT.out.drewN nq)
  have ck2 : (w1.drewN nq).cell? ⟨w.heap.size, 0, none⟩ = some (.int .i64 16) := ck
  clear cc zz ck
  generalize w1.drewN nq = w2 at *
  obtain ⟨cc, zz⟩ := HQ.out.2.cell
  go_wp2_with fail
  refine (hE.out _ HQ.out.2).mono ?_
  rintro e w' ⟨rfl, hT2⟩
  go_wp2
  go_end0
  exact ⟨rfl, HQ.out.trans hT2⟩


set_option maxRecDepth 100000 in
set_option maxHeartbeats 3200000 in
theorem rpress_17 (d : ED) (byte : Int) (was : Bool) (bv : Value) (place : Int) (begun : ByteArray) (b : Nat) (w : World) (h : RBox w b (rlC d bv place begun)) (ha : d.a ≤ d.text.size) (ht : d.text.size ≤ 1000) (_hkl : d.killed.size ≤ 1000) :
    Calls Tryz.prog 41 #[.pointer (some ⟨b, 0, none⟩), .agg #[.int .i64 17, .int .i64 byte], .bool was] w (RChangePost w b (actD 17 byte was d) bv place begun) := by
  have hE := Lib.hid (fun w' => fun (hw : RBox w' b (rlC d bv place begun)) => rletters_any d 17 bv place begun b w' hw ha ht)
  have hfin : actD 17 byte was d = lettersD 17 d := by simp [actD]
  rw [hfin]
  clear hfin
  obtain ⟨text, a, killed, killing⟩ := d
  dsimp only at *
  have hT := rbox_key h (.cells #[.int .i64 17, .int .i64 byte] 42)
  have HT := Lib.hid hT
  obtain ⟨cc, zz⟩ := hT.2.cell
  have ck := (two_cells w (.int .i64 17) (.int .i64 byte) 42).1
  clear hT h
  go_enter Tryz.func41, Tryz.ntmps41
  go_wp2_with fail
  generalize w.alloc (.cells #[.int .i64 17, .int .i64 byte] 42) = w1 at *
  go_quiet (fail)
  have HQ := Lib.hid (HT.out.drewN nq)
  have ck2 : (w1.drewN nq).cell? ⟨w.heap.size, 0, none⟩ = some (.int .i64 17) := ck
  clear cc zz ck
  generalize w1.drewN nq = w2 at *
  obtain ⟨cc, zz⟩ := HQ.out.2.cell
  go_wp2_with fail
  refine (hE.out _ HQ.out.2).mono ?_
  rintro e w' ⟨rfl, hT2⟩
  go_wp2
  go_end0
  exact ⟨rfl, HQ.out.trans hT2⟩


set_option maxRecDepth 100000 in
set_option maxHeartbeats 3200000 in
theorem rpress_18 (d : ED) (byte : Int) (was : Bool) (bv : Value) (place : Int) (begun : ByteArray) (b : Nat) (w : World) (h : RBox w b (rlC d bv place begun)) (ha : d.a ≤ d.text.size) (ht : d.text.size ≤ 1000) (_hkl : d.killed.size ≤ 1000) :
    Calls Tryz.prog 41 #[.pointer (some ⟨b, 0, none⟩), .agg #[.int .i64 18, .int .i64 byte], .bool was] w (RChangePost w b (actD 18 byte was d) bv place begun) := by
  have hE := Lib.hid (fun w' => fun (hw : RBox w' b (rlC d bv place begun)) => rletters_any d 18 bv place begun b w' hw ha ht)
  have hfin : actD 18 byte was d = lettersD 18 d := by simp [actD]
  rw [hfin]
  clear hfin
  obtain ⟨text, a, killed, killing⟩ := d
  dsimp only at *
  have hT := rbox_key h (.cells #[.int .i64 18, .int .i64 byte] 42)
  have HT := Lib.hid hT
  obtain ⟨cc, zz⟩ := hT.2.cell
  have ck := (two_cells w (.int .i64 18) (.int .i64 byte) 42).1
  clear hT h
  go_enter Tryz.func41, Tryz.ntmps41
  go_wp2_with fail
  generalize w.alloc (.cells #[.int .i64 18, .int .i64 byte] 42) = w1 at *
  go_quiet (fail)
  have HQ := Lib.hid (HT.out.drewN nq)
  have ck2 : (w1.drewN nq).cell? ⟨w.heap.size, 0, none⟩ = some (.int .i64 18) := ck
  clear cc zz ck
  generalize w1.drewN nq = w2 at *
  obtain ⟨cc, zz⟩ := HQ.out.2.cell
  go_wp2_with fail
  refine (hE.out _ HQ.out.2).mono ?_
  rintro e w' ⟨rfl, hT2⟩
  go_wp2
  go_end0
  exact ⟨rfl, HQ.out.trans hT2⟩


end Go.Proofs.YtokmiommhfbkeaaGreatDoor
