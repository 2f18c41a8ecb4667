/- Times, the reference: a star with a step is read. (Begun; see NOTES.md.) -/
import Derived.Test.YtlhaidibcocooaaGreatDoorTimesL
namespace Go.Proofs.YtlhaidibcocooaaGreatDoor
open Go.RowKit

theorem scut_slash (n : Nat) (h1 : n < 100) (w : World) (hm : MaxLenAt w) : Calls Tryz.prog 66 #[.string ⟨(42 :: 47 :: Lib.decDigits n).toArray⟩, .string ⟨#[47]⟩] w fun e w' => e = .returned (.tuple #[.string ⟨#[42]⟩, .string ⟨(Lib.decDigits n).toArray⟩, .bool true]) ∧ Below w.heap.size w w' := by
  obtain ⟨m, hm⟩ := hm
  have hd := dig_ok h1
  refine (Tryz.strings_Cut _ ⟨#[47]⟩ m w (by show (42 :: 47 :: Lib.decDigits n).toArray.size < _; rw [List.size_toArray, List.length_cons, List.length_cons]; omega) hm).mono ?_
  rintro e w' ⟨rfl, p, rfl⟩
  have hc : Lib.cut (⟨(42 :: 47 :: Lib.decDigits n).toArray⟩ : ByteArray).data.toList (⟨#[47]⟩ : ByteArray).data.toList = ([42], Lib.decDigits n, true) := (cut_num h1).2.2
  rw [hc]
  exact ⟨rfl, ⟨rfl, rfl, rfl, Nat.le_refl _, fun _ _ => rfl⟩⟩

set_option maxRecDepth 100000 in
set_option maxHeartbeats 1600000 in
theorem part_starBy (low top n : Nat) (v : Value) (w : World) (h1 : low ≤ top) (hh : top < 64) (hn1 : 1 ≤ n) (hn2 : n < 100) (hv : ∃ A l c, v = .slice A l c) (hm : MaxLenAt w) :
    Calls Tryz.prog 30 #[.agg #[.int .i64 (low : Int), .int .i64 (top : Int), v], .string ⟨(42 :: 47 :: Lib.decDigits n).toArray⟩] w fun e w' => e = .returned (.tuple #[.int .u64 (orL 0 (upL low top n) : Int), .int .i64 0]) ∧ Below w.heap.size w w' := by
  obtain ⟨RES, hres⟩ : ∃ RES, orL 0 (upL low top n) = RES := ⟨_, rfl⟩
  rw [hres]
  have HR := Lib.hid hres
  clear hres
  have hd := dig_ok hn2
  have HS := Lib.hid (fun W h => scut_slash n hn2 W h)
  have HT := Lib.hid (fun W => trim_digits n hn2 W)
  have HA := Lib.hid (fun W => Tryz.strconv_Atoi ⟨(Lib.decDigits n).toArray⟩ (n : Int) (by show (Lib.decDigits n).toArray.size ≤ 18; rw [List.size_toArray]; omega) hd.2.2.2.1 W)
  obtain ⟨ds, hds⟩ : ∃ ds : ByteArray, (⟨(42 :: 47 :: Lib.decDigits n).toArray⟩ : ByteArray) = ds := ⟨_, rfl⟩
  obtain ⟨dk, hdk⟩ : ∃ dk : ByteArray, (⟨(Lib.decDigits n).toArray⟩ : ByteArray) = dk := ⟨_, rfl⟩
  have hs2 : dk.size ≤ 2 := by rw [← hdk]; show (Lib.decDigits n).toArray.size ≤ 2; rw [List.size_toArray]; omega
  rw [hds, hdk] at HS
  rw [hdk] at HT HA
  rw [hds]
  clear hds hdk hd
  obtain ⟨A, l, c, rfl⟩ := hv
  have HX := Lib.hid (BX.start w #[.int .i64 (low : Int), .int .i64 (top : Int), .slice A l c] 75)
  have b1 := (Below.refl w.heap.size w).alloc (Nat.le_refl _) (.cells #[.int .i64 (low : Int), .int .i64 (top : Int), .slice A l c] 75)
  have HM := Lib.hid (hm.keep b1)
  clear hm b1
  go_enter Tryz.func30, Tryz.ntmps30
  go_wp2_with fail
  generalize w.alloc (.cells #[.int .i64 (low : Int), .int .i64 (top : Int), .slice A l c] 75) = w1 at *
  refine (HS.out _ HM.out).mono ?_
  rintro e w2 ⟨rfl, hb2⟩
  have HX2 := Lib.hid (HX.out.keep hb2)
  clear hb2 HX HM
  go_wp2_with fail
  refine (HA.out _).mono ?_
  rintro e w3 ⟨rfl, tt, hw3⟩
  have hb3 : Below w2.heap.size w2 w3 := by rw [hw3]; exact Joins.below_bytesWorld w2.heap.size w2 _ tt (Nat.le_refl _)
  have HX3 := Lib.hid (HX2.out.keep hb3)
  clear hb3 hw3 HX2
  go_wp2_with fail
  refine (HT.out _).mono ?_
  rintro e w4 ⟨rfl, hb4⟩
  have HX4 := Lib.hid (HX3.out.keep hb4)
  clear hb4 HX3
  have c0 : w4.cell? ⟨w.heap.size, 0, none⟩ = some (.int .i64 (low : Int)) := HX4.out.cells 0
  have c1 : w4.cell? ⟨w.heap.size, 1, none⟩ = some (.int .i64 (top : Int)) := HX4.out.cells 1
  have hnz : ((n : Int) == 0) = false := by rw [beq_eq_false_iff_ne]; omega
  go_upto_region 8 with fail
  go_quiet (fail)
  have b2 : Below w4.heap.size w4 (w4.drewN nq) := ⟨rfl, rfl, rfl, Nat.le_refl _, fun _ _ => rfl⟩
  have HX5 := Lib.hid (HX4.out.keep b2)
  clear b2 HX4 c0 c1
  generalize w4.drewN nq = w5 at *
  go_wp2_with fail
  go_loopw [22, 23] (fun s4 s5 wr => ∃ acc k : Nat, s4 = .int .u64 (acc : Int) ∧ s5 = .int .i64 (k : Int) ∧ k ≤ top + 99 ∧ acc < 18446744073709551616 ∧ Hid (orL acc (upL k top n) = RES) ∧ wr = w5) (fun _ s5 _ => top + 99 - (intOf s5).toNat)
  case atStart => exact ⟨0, low, rfl, rfl, by omega, by decide, HR.out, rfl⟩
  case round =>
    obtain ⟨acc, k, rfl, rfl, hkn, hacc, HE, rfl⟩ := hrel
    by_cases hlt : k ≤ top
    · have HE2 := HE.out
      unfold upL at HE2
      rw [dif_pos ⟨hlt, by omega⟩, orL] at HE2
      have HE3 := Lib.hid HE2
      have hor := or_bit acc k hacc (by omega)
      have hlt2 := Lib.hid (or_lt acc k hacc (by omega))
      clear HE2 HE
      generalize acc ||| 2 ^ k = acc2 at *
      go_wp2_with fail
      exact ⟨⟨acc2, k + n, rfl, by go_num, by omega, hlt2.out, HE3, trivial⟩, by simp [intOf]; omega⟩
    · have hR : acc = RES := by
        have h := HE.out
        unfold upL at h
        rw [dif_neg (by omega)] at h
        exact h
      subst hR
      go_wp2_with fail
      go_ret2
      exact ⟨rfl, HX5.out.below⟩

theorem star_slash (w : World) (hm : MaxLenAt w) : Calls Tryz.prog 66 #[.string ⟨#[42]⟩, .string ⟨#[47]⟩] w fun e w' => e = .returned (.tuple #[.string ⟨#[42]⟩, .string ⟨#[]⟩, .bool false]) ∧ Below w.heap.size w w' := by
  obtain ⟨m, hm⟩ := hm
  refine (Tryz.strings_Cut ⟨#[42]⟩ ⟨#[47]⟩ m w (by decide) hm).mono ?_
  rintro e w' ⟨rfl, p, rfl⟩
  have hc : Lib.cut (⟨#[42]⟩ : ByteArray).data.toList (⟨#[47]⟩ : ByteArray).data.toList = ([42], [], false) := cut_star
  rw [hc]
  exact ⟨rfl, ⟨rfl, rfl, rfl, Nat.le_refl _, fun _ _ => rfl⟩⟩
set_option maxRecDepth 100000 in
set_option maxHeartbeats 1600000 in
theorem part_star (low top : Nat) (v : Value) (w : World) (h1 : low ≤ top) (hh : top < 64) (hv : ∃ A l c, v = .slice A l c) (hm : MaxLenAt w) :
    Calls Tryz.prog 30 #[.agg #[.int .i64 (low : Int), .int .i64 (top : Int), v], .string ⟨#[42]⟩] w fun e w' => e = .returned (.tuple #[.int .u64 (orL 0 (upL low top 1) : Int), .int .i64 0]) ∧ Below w.heap.size w w' := by
  obtain ⟨RES, hres⟩ : ∃ RES, orL 0 (upL low top 1) = RES := ⟨_, rfl⟩
  rw [hres]
  have HR := Lib.hid hres
  clear hres
  obtain ⟨A, l, c, rfl⟩ := hv
  have HX := Lib.hid (BX.start w #[.int .i64 (low : Int), .int .i64 (top : Int), .slice A l c] 75)
  have b1 := (Below.refl w.heap.size w).alloc (Nat.le_refl _) (.cells #[.int .i64 (low : Int), .int .i64 (top : Int), .slice A l c] 75)
  have HM := Lib.hid (hm.keep b1)
  clear hm b1
  go_enter Tryz.func30, Tryz.ntmps30
  go_wp2_with fail
  generalize w.alloc (.cells #[.int .i64 (low : Int), .int .i64 (top : Int), .slice A l c] 75) = w1 at *
  refine (star_slash _ HM.out).mono ?_
  rintro e w4 ⟨rfl, hb4⟩
  have HX4 := Lib.hid (HX.out.keep hb4)
  clear hb4 HX HM
  have c0 : w4.cell? ⟨w.heap.size, 0, none⟩ = some (.int .i64 (low : Int)) := HX4.out.cells 0
  have c1 : w4.cell? ⟨w.heap.size, 1, none⟩ = some (.int .i64 (top : Int)) := HX4.out.cells 1
  go_upto_region 8 with fail
  go_quiet (fail)
  have b2 : Below w4.heap.size w4 (w4.drewN nq) := ⟨rfl, rfl, rfl, Nat.le_refl _, fun _ _ => rfl⟩
  have HX5 := Lib.hid (HX4.out.keep b2)
  clear b2 HX4 c0 c1
  generalize w4.drewN nq = w5 at *
  go_wp2_with fail
  go_loopw [22, 23] (fun s4 s5 wr => ∃ acc k : Nat, s4 = .int .u64 (acc : Int) ∧ s5 = .int .i64 (k : Int) ∧ k ≤ top + 1 ∧ acc < 18446744073709551616 ∧ Hid (orL acc (upL k top 1) = RES) ∧ wr = w5) (fun _ s5 _ => top + 1 - (intOf s5).toNat)
  case atStart => exact ⟨0, low, rfl, rfl, by omega, by decide, HR.out, rfl⟩
  case round =>
    obtain ⟨acc, k, rfl, rfl, hkn, hacc, HE, rfl⟩ := hrel
    by_cases hlt : k ≤ top
    · have HE2 := HE.out
      unfold upL at HE2
      rw [dif_pos ⟨hlt, by omega⟩, orL] at HE2
      have HE3 := Lib.hid HE2
      have hor := or_bit acc k hacc (by omega)
      have hlt2 := Lib.hid (or_lt acc k hacc (by omega))
      clear HE2 HE
      generalize acc ||| 2 ^ k = acc2 at *
      go_wp2_with fail
      exact ⟨⟨acc2, k + 1, rfl, by go_num, by omega, hlt2.out, HE3, trivial⟩, by simp [intOf]; omega⟩
    · have hR : acc = RES := by
        have h := HE.out
        unfold upL at h
        rw [dif_neg (by omega)] at h
        exact h
      subst hR
      go_wp2_with fail
      go_ret2
      exact ⟨rfl, HX5.out.below⟩

end Go.Proofs.YtlhaidibcocooaaGreatDoor
