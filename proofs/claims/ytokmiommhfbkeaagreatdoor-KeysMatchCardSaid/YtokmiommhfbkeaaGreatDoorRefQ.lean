/- The reference's editor, on its line behind a pointer: bytes that are inserted, two that are exchanged, any good key. -/
import Derived.Test.YtokmiommhfbkeaaGreatDoorRefP
import Derived.Test.YtokmiommhfbkeaaGreatDoorEditE
namespace Go.Proofs.YtokmiommhfbkeaaGreatDoor
open Go.RowKit

set_option maxRecDepth 100000 in
set_option maxHeartbeats 3200000 in
theorem rpress_ins (d : ED) (kind : Int) (c : UInt8) (was : Bool) (bv : Value) (place : Int) (begun : ByteArray) (b : Nat) (w : World) (h : RBox w b (rlC d bv place begun)) (ha : d.a ≤ d.text.size) (ht : d.text.size ≤ 1000) (hk : kind = 1 ∨ kind = 22) :
    Calls Tryz.prog 41 #[.pointer (some ⟨b, 0, none⟩), .agg #[.int .i64 kind, .int .i64 c.toNat], .bool was] w (RChangePost w b (actD kind c.toNat was d) bv place begun) := by
  have hwr : IntKind.u8.wrap (c.toNat : Int) = (c.toNat : Int) := by have := c.toNat_lt; rw [IntKind.wrap_u8]; omega
  have hfin : actD kind c.toNat was d = insD ⟨#[c]⟩ d := by rcases hk with rfl | rfl <;> simp [actD]
  rw [hfin]
  clear hfin
  have hE := Lib.hid (fun w' => fun (hw : RBox w' b (rlC d bv place begun)) => rinsert_any d bv place begun ⟨#[c]⟩ b w' hw ha ht (by show 1 ≤ 1000; omega))
  obtain ⟨text, a, killed, killing⟩ := d
  dsimp only at *
  rcases hk with rfl | rfl
  · have hT := rbox_key h (.cells #[.int .i64 1, .int .i64 c.toNat] 42)
    have HT := Lib.hid hT
    obtain ⟨cc, zz⟩ := hT.2.cell
    have ck := two_cells w (.int .i64 1) (.int .i64 c.toNat) 42
    obtain ⟨ck, cb⟩ := ck
    clear hT h
    go_enter Tryz.func41, Tryz.ntmps41
    go_wp2_with fail
    generalize w.alloc (.cells #[.int .i64 1, .int .i64 c.toNat] 42) = w1 at *
    go_quiet (fail)
    have HQ := Lib.hid (HT.out.drewN nq)
    have ck2 : (w1.drewN nq).cell? ⟨w.heap.size, 0, none⟩ = some (.int .i64 1) := ck
    have cb2 : (w1.drewN nq).cell? ⟨w.heap.size, 1, none⟩ = some (.int .i64 c.toNat) := cb
    clear cc zz ck cb
    generalize w1.drewN nq = w2 at *
    obtain ⟨cc, zz⟩ := HQ.out.2.cell
    have hcv := one_back w2 c
    have HA := Lib.hid (fun o => (HQ.out.alloc o))
    clear cc zz
    go_wp2_with fail
    refine (hE.out _ (HA.out _).2).mono ?_
    rintro e w' ⟨rfl, hT2⟩
    go_wp2
    go_end0
    exact ⟨rfl, (HA.out _).trans hT2⟩
  · have hT := rbox_key h (.cells #[.int .i64 22, .int .i64 c.toNat] 42)
    have HT := Lib.hid hT
    obtain ⟨cc, zz⟩ := hT.2.cell
    have ck := two_cells w (.int .i64 22) (.int .i64 c.toNat) 42
    obtain ⟨ck, cb⟩ := ck
    clear hT h
    go_enter Tryz.func41, Tryz.ntmps41
    go_wp2_with fail
    generalize w.alloc (.cells #[.int .i64 22, .int .i64 c.toNat] 42) = w1 at *
    go_quiet (fail)
    have HQ := Lib.hid (HT.out.drewN nq)
    have ck2 : (w1.drewN nq).cell? ⟨w.heap.size, 0, none⟩ = some (.int .i64 22) := ck
    have cb2 : (w1.drewN nq).cell? ⟨w.heap.size, 1, none⟩ = some (.int .i64 c.toNat) := cb
    clear cc zz ck cb
    generalize w1.drewN nq = w2 at *
    obtain ⟨cc, zz⟩ := HQ.out.2.cell
    have hcv := one_back w2 c
    have HA := Lib.hid (fun o => (HQ.out.alloc o))
    clear cc zz
    go_wp2_with fail
    refine (hE.out _ (HA.out _).2).mono ?_
    rintro e w' ⟨rfl, hT2⟩
    go_wp2
    go_end0
    exact ⟨rfl, (HA.out _).trans hT2⟩

theorem swapD_no {d : ED} (h : d.text.size < 2 ∨ d.a = 0) : swapD d = d := by unfold swapD; rw [if_pos h]
theorem swapD_at {text : ByteArray} {a m : Nat} {killed : ByteArray} {killing : Bool} (h1 : 1 ≤ m) (h2 : m < text.size) (hk : a = m ∨ a = m + 1 ∧ m + 1 = text.size) : swapD ⟨text, a, killed, killing⟩ = ⟨swapT text (m - 1), m + 1, killed, killing⟩ := by
  unfold swapD
  dsimp only
  rcases hk with rfl | ⟨rfl, he⟩
  · rw [if_neg (by omega), if_neg (by omega)]
  · rw [if_neg (by omega), if_pos he]; rfl

set_option maxRecDepth 100000 in
set_option maxHeartbeats 3200000 in
theorem rswap_at (text : ByteArray) (a m : Nat) (killed : ByteArray) (killing : Bool) (byte : Int) (was : Bool) (bv : Value) (place : Int) (begun : ByteArray) (b : Nat) (w : World) (h : RBox w b (rlC ⟨text, a, killed, killing⟩ bv place begun))
    (h1 : 1 ≤ m) (h2 : m < text.size) (ht : text.size ≤ 1000) (hk : a = m ∨ a = m + 1 ∧ m + 1 = text.size) :
    Calls Tryz.prog 41 #[.pointer (some ⟨b, 0, none⟩), .agg #[.int .i64 13, .int .i64 byte], .bool was] w (RChangePost w b ⟨swapT text (m - 1), m + 1, killed, killing⟩ bv place begun) := by
  have e3 : decide ((text.size : Int) < 2) = false := by rw [decide_eq_false_iff_not]; omega
  have hk2 : m ≤ 1000 := by omega
  have w1a : IntKind.i64.wrap ((m : Int) - 1) = ((m - 1 : Nat) : Int) := by rw [IntWalk.i64_in _ (by omega)]; omega
  have w2a : IntKind.i64.wrap ((m : Int) + 1) = ((m + 1 : Nat) : Int) := by rw [IntWalk.i64_in _ (by omega)]; omega
  have g1 : ¬ 9223372036854775807 < m := by omega
  have g2 : ¬ 9223372036854775807 < m + (m - (m - 1)) := by omega
  have g3 : ¬ 9223372036854775807 < m + (m - (m - 1)) + (text.size - (m + 1)) := by omega
  have g4 : ¬ 9223372036854775807 < text.size := by omega
  have b1 : m - 1 ≤ text.size := by omega
  have b2 : m + 1 ≤ text.size := by omega
  have b3 : m ≤ m + 1 := by omega
  have b4 : m - 1 ≤ m := by omega
  have b5 : m ≤ text.size := by omega
  have hsw := Lib.hid (show swapT text (m - 1) = text.extract 0 (m - 1) ++ text.extract m (m + 1) ++ text.extract (m - 1) m ++ text.extract (m + 1) text.size by
    unfold swapT; rw [show m - 1 + 1 = m by omega, show m - 1 + 2 = m + 1 by omega])
  have c1 : (0 : Int) ≤ (m : Int) + 1 := by omega
  have c2 : (m : Int) + 1 ≤ (text.size : Int) := by omega
  have c3 : (m : Int) ≤ (m : Int) + 1 := by omega
  have hT := rbox_key h (.cells #[.int .i64 13, .int .i64 byte] 42)
  have HT := Lib.hid hT
  obtain ⟨cc, zz⟩ := hT.2.cell
  have ck := (two_cells w (.int .i64 13) (.int .i64 byte) 42).1
  clear hT h
  have hor : (((a : Int) == 0) = false ∧ ((a : Int) == (text.size : Int)) = false ∧ m = a) ∨ (((m : Int) + 1 == 0) = false ∧ ((m : Int) + 1 == (text.size : Int)) = true ∧ m + 1 = a) := by
    rcases hk with rfl | ⟨rfl, he⟩
    · exact .inl ⟨by rw [beq_eq_false_iff_ne]; omega, by rw [beq_eq_false_iff_ne]; omega, rfl⟩
    · exact .inr ⟨by rw [beq_eq_false_iff_ne]; omega, by rw [← he]; simp, rfl⟩
  clear hk
  rcases hor with ⟨e1, e2, rfl⟩ | ⟨e1, e2, rfl⟩
  all_goals
    go_enter Tryz.func41, Tryz.ntmps41
    go_wp2_with fail
    generalize w.alloc (.cells #[.int .i64 13, .int .i64 byte] 42) = w1 at *
    go_quiet (fail)
    have HQ := Lib.hid (HT.out.drewN nq)
    have ck2 : (w1.drewN nq).cell? ⟨w.heap.size, 0, none⟩ = some (.int .i64 13) := ck
    clear cc zz ck
    generalize w1.drewN nq = w2 at *
    obtain ⟨cc, zz⟩ := HQ.out.2.cell
    go_wp2_with fail
    go_still_tail 24, (by kernel_rfl)
    go_wp2
    go_end0
    rw [hsw.out]
    exact ⟨rfl, ((HQ.out.set 0 _).set 1 _).drew⟩

set_option maxRecDepth 100000 in
set_option maxHeartbeats 1600000 in
theorem rswap_not (text : ByteArray) (a : Nat) (killed : ByteArray) (killing : Bool) (byte : Int) (was : Bool) (bv : Value) (place : Int) (begun : ByteArray) (b : Nat) (w : World) (h : RBox w b (rlC ⟨text, a, killed, killing⟩ bv place begun))
    (h1 : text.size < 2 ∨ a = 0) (ht : text.size ≤ 1000) (_ha : a ≤ text.size) :
    Calls Tryz.prog 41 #[.pointer (some ⟨b, 0, none⟩), .agg #[.int .i64 13, .int .i64 byte], .bool was] w (RChangePost w b ⟨text, a, killed, killing⟩ bv place begun) := by
  have hor : decide ((text.size : Int) < 2) = true ∨ (decide ((text.size : Int) < 2) = false ∧ ((a : Int) == 0) = true) := by
    by_cases hh : text.size < 2
    · exact .inl (by rw [decide_eq_true_iff]; omega)
    · exact .inr ⟨by rw [decide_eq_false_iff_not]; omega, by rw [beq_iff_eq]; omega⟩
  clear h1
  have hT := rbox_key h (.cells #[.int .i64 13, .int .i64 byte] 42)
  have HT := Lib.hid hT
  obtain ⟨cc, zz⟩ := hT.2.cell
  have ck := (two_cells w (.int .i64 13) (.int .i64 byte) 42).1
  clear hT h
  rcases hor with e1 | ⟨e1, e2⟩
  all_goals
    go_enter Tryz.func41, Tryz.ntmps41
    go_wp2_with fail
    generalize w.alloc (.cells #[.int .i64 13, .int .i64 byte] 42) = w1 at *
    go_quiet (fail)
    have HQ := Lib.hid (HT.out.drewN nq)
    have ck2 : (w1.drewN nq).cell? ⟨w.heap.size, 0, none⟩ = some (.int .i64 13) := ck
    clear cc zz ck
    generalize w1.drewN nq = w2 at *
    obtain ⟨cc, zz⟩ := HQ.out.2.cell
    go_wp2
    refine bodyPost_ret (results_none rfl _ _ _) rfl ?_
    exact ⟨rfl, HQ.out⟩

theorem rpress_13 (d : ED) (byte : Int) (was : Bool) (bv : Value) (place : Int) (begun : ByteArray) (b : Nat) (w : World) (h : RBox w b (rlC d bv place begun)) (ha : d.a ≤ d.text.size) (ht : d.text.size ≤ 1000) :
    Calls Tryz.prog 41 #[.pointer (some ⟨b, 0, none⟩), .agg #[.int .i64 13, .int .i64 byte], .bool was] w (RChangePost w b (actD 13 byte was d) bv place begun) := by
  have hfin : actD 13 byte was d = swapD d := by simp [actD]
  rw [hfin]
  obtain ⟨text, a, killed, killing⟩ := d
  dsimp only at *
  by_cases h1 : text.size < 2 ∨ a = 0
  · rw [swapD_no h1]
    exact rswap_not text a killed killing byte was bv place begun b w h h1 ht ha
  · by_cases he : a = text.size
    · have hk : a = a - 1 ∨ a = a - 1 + 1 ∧ a - 1 + 1 = text.size := .inr ⟨by omega, by omega⟩
      rw [swapD_at (m := a - 1) (by omega) (by omega) hk]
      exact rswap_at text a (a - 1) killed killing byte was bv place begun b w h (by omega) (by omega) ht hk
    · rw [swapD_at (m := a) (by omega) (by omega) (.inl rfl)]
      exact rswap_at text a a killed killing byte was bv place begun b w h (by omega) (by omega) ht (.inl rfl)

theorem rpress_any (d : ED) (kind byte : Int) (was : Bool) (bv : Value) (place : Int) (begun : ByteArray) (b : Nat) (w : World) (h : RBox w b (rlC d bv place begun)) (ha : d.a ≤ d.text.size) (ht : d.text.size ≤ 1000) (hkl : d.killed.size ≤ 1000)
    (hk : keyE kind byte = 0) (h19 : ¬ kind = 19) (h20 : ¬ kind = 20) (h21 : ¬ kind = 21) :
    Calls Tryz.prog 41 #[.pointer (some ⟨b, 0, none⟩), .agg #[.int .i64 kind, .int .i64 byte], .bool was] w (RChangePost w b (actD kind byte was d) bv place begun) := by
  have hr := keyE_kind hk
  have hor : (kind = 1 ∨ kind = 22) ∨ kind = 2 ∨ kind = 3 ∨ kind = 4 ∨ kind = 5 ∨ kind = 6 ∨ kind = 7 ∨ kind = 8 ∨ kind = 9 ∨ kind = 10 ∨ kind = 11 ∨ kind = 12 ∨ kind = 13 ∨ kind = 14 ∨ kind = 15 ∨ kind = 16 ∨ kind = 17 ∨ kind = 18 := by omega
  rcases hor with h1 | rfl | rfl | rfl | rfl | rfl | rfl | rfl | rfl | rfl | rfl | rfl | rfl | rfl | rfl | rfl | rfl | rfl
  · obtain ⟨c, rfl⟩ := keyE_byte hk h1
    exact rpress_ins d kind c was bv place begun b w h ha ht h1
  · exact rpress_2 d byte was bv place begun b w h ha ht hkl
  · exact rpress_3 d byte was bv place begun b w h ha ht hkl
  · exact rpress_4 d byte was bv place begun b w h ha ht hkl
  · exact rpress_5 d byte was bv place begun b w h ha ht hkl
  · exact rpress_6 d byte was bv place begun b w h ha ht hkl
  · exact rpress_7 d byte was bv place begun b w h ha ht hkl
  · exact rpress_8 d byte was bv place begun b w h ha ht hkl
  · exact rpress_9 d byte was bv place begun b w h ha ht hkl
  · exact rpress_10 d byte was bv place begun b w h ha ht hkl
  · exact rpress_11 d byte was bv place begun b w h ha ht hkl
  · exact rpress_12 d byte was bv place begun b w h ha ht hkl
  · exact rpress_13 d byte was bv place begun b w h ha ht
  · exact rpress_14 d byte was bv place begun b w h ha ht hkl
  · exact rpress_15 d byte was bv place begun b w h ha ht hkl
  · exact rpress_16 d byte was bv place begun b w h ha ht hkl
  · exact rpress_17 d byte was bv place begun b w h ha ht hkl
  · exact rpress_18 d byte was bv place begun b w h ha ht hkl

end Go.Proofs.YtokmiommhfbkeaaGreatDoor
