/- Times, the reference: a range of a field is read. (Begun; see NOTES.md.) -/
import Derived.Test.YtlhaidibcocooaaGreatDoorTimesK
namespace Go.Proofs.YtlhaidibcocooaaGreatDoor
open Go.RowKit

theorem range_size {n q : Nat} (h1 : n < 64) (h2 : q < 64) : (⟨(Lib.decDigits n ++ 45 :: Lib.decDigits q).toArray⟩ : ByteArray).size < 4294967281 := by
  have a1 := dig_ok (n := n) (by omega)
  have a2 := dig_ok (n := q) (by omega)
  show (Lib.decDigits n ++ 45 :: Lib.decDigits q).toArray.size < _
  rw [List.size_toArray, List.length_append, List.length_cons]
  omega
theorem rcut_slash (n q : Nat) (h1 : n < 64) (h2 : q < 64) (w : World) (hm : MaxLenAt w) : Calls Tryz.prog 66 #[.string ⟨(Lib.decDigits n ++ 45 :: Lib.decDigits q).toArray⟩, .string ⟨#[47]⟩] w fun e w' => e = .returned (.tuple #[.string ⟨(Lib.decDigits n ++ 45 :: Lib.decDigits q).toArray⟩, .string ⟨#[]⟩, .bool false]) ∧ Below w.heap.size w w' := by
  obtain ⟨m, hm⟩ := hm
  refine (Tryz.strings_Cut _ ⟨#[47]⟩ m w (range_size h1 h2) hm).mono ?_
  rintro e w' ⟨rfl, p, rfl⟩
  have hc : Lib.cut (⟨(Lib.decDigits n ++ 45 :: Lib.decDigits q).toArray⟩ : ByteArray).data.toList (⟨#[47]⟩ : ByteArray).data.toList = (Lib.decDigits n ++ 45 :: Lib.decDigits q, [], false) := (cut_range h1 h2).1
  rw [hc]
  exact ⟨rfl, ⟨rfl, rfl, rfl, Nat.le_refl _, fun _ _ => rfl⟩⟩
theorem rcut_hyphen (n q : Nat) (h1 : n < 64) (h2 : q < 64) (w : World) (hm : MaxLenAt w) : Calls Tryz.prog 66 #[.string ⟨(Lib.decDigits n ++ 45 :: Lib.decDigits q).toArray⟩, .string ⟨#[45]⟩] w fun e w' => e = .returned (.tuple #[.string ⟨(Lib.decDigits n).toArray⟩, .string ⟨(Lib.decDigits q).toArray⟩, .bool true]) ∧ Below w.heap.size w w' := by
  obtain ⟨m, hm⟩ := hm
  refine (Tryz.strings_Cut _ ⟨#[45]⟩ m w (range_size h1 h2) hm).mono ?_
  rintro e w' ⟨rfl, p, rfl⟩
  have hc : Lib.cut (⟨(Lib.decDigits n ++ 45 :: Lib.decDigits q).toArray⟩ : ByteArray).data.toList (⟨#[45]⟩ : ByteArray).data.toList = (Lib.decDigits n, Lib.decDigits q, true) := (cut_range h1 h2).2
  rw [hc]
  exact ⟨rfl, ⟨rfl, rfl, rfl, Nat.le_refl _, fun _ _ => rfl⟩⟩
theorem notStar_all2 : ((List.range 64).all fun a => (List.range 64).all fun b => !((⟨(Lib.decDigits a ++ 45 :: Lib.decDigits b).toArray⟩ : ByteArray).toList == [42])) = true := by decide +kernel
set_option maxRecDepth 100000 in
set_option maxHeartbeats 1600000 in
theorem part_range (low top n q : Nat) (v : Value) (w : World) (h1 : low ≤ n) (h3 : n ≤ q) (h2 : q ≤ top) (hh : top < 64) (hn : NmAt w v) (hm : MaxLenAt w) :
    Calls Tryz.prog 30 #[.agg #[.int .i64 (low : Int), .int .i64 (top : Int), v], .string ⟨(Lib.decDigits n ++ 45 :: Lib.decDigits q).toArray⟩] w fun e w' => e = .returned (.tuple #[.int .u64 (orL 0 (upL n q 1) : Int), .int .i64 0]) ∧ Below w.heap.size w w' := by
  have hk : n < 100 := by omega
  have hk2 : q < 100 := by omega
  obtain ⟨RES, hres⟩ : ∃ RES, orL 0 (upL n q 1) = RES := ⟨_, rfl⟩
  rw [hres]
  have HR := Lib.hid hres
  clear hres
  have HS := Lib.hid (fun W h => rcut_slash n q (by omega) (by omega) W h)
  have HH := Lib.hid (fun W h => rcut_hyphen n q (by omega) (by omega) W h)
  have HNum := Lib.hid (fun W (h : NmAt W v) => number_any low top n v W hk h1 (by omega) h)
  have HNum2 := Lib.hid (fun W (h : NmAt W v) => number_any low top q v W hk2 (by omega) h2 h)
  obtain ⟨dk, hdk⟩ : ∃ dk : ByteArray, (⟨(Lib.decDigits n ++ 45 :: Lib.decDigits q).toArray⟩ : ByteArray) = dk := ⟨_, rfl⟩
  obtain ⟨da, hda⟩ : ∃ da : ByteArray, (⟨(Lib.decDigits n).toArray⟩ : ByteArray) = da := ⟨_, rfl⟩
  obtain ⟨db, hdb⟩ : ∃ db : ByteArray, (⟨(Lib.decDigits q).toArray⟩ : ByteArray) = db := ⟨_, rfl⟩
  have hne2 : (dk.toList == [42]) = false := by
    rw [← hdk]
    simpa using List.all_eq_true.1 (List.all_eq_true.1 notStar_all2 n (List.mem_range.2 (by omega))) q (List.mem_range.2 (by omega))
  rw [hdk] at HS HH
  rw [hda] at HH HNum
  rw [hdb] at HH HNum2
  rw [hdk]
  have hnq : ¬ (q : Int) < (n : Int) := by omega
  clear hdk hda hdb
  obtain ⟨A, c, NM, rfl, _⟩ := id hn
  have HX := Lib.hid (BX.start w #[.int .i64 (low : Int), .int .i64 (top : Int), .slice A NM.length c] 75)
  have b1 := (Below.refl w.heap.size w).alloc (Nat.le_refl _) (.cells #[.int .i64 (low : Int), .int .i64 (top : Int), .slice A NM.length c] 75)
  have HN := Lib.hid (hn.keep b1)
  have HM := Lib.hid (hm.keep b1)
  clear hn hm b1
  go_enter Tryz.func30, Tryz.ntmps30
  go_wp2_with fail
  generalize w.alloc (.cells #[.int .i64 (low : Int), .int .i64 (top : Int), .slice A NM.length c] 75) = w1 at *
  refine (HS.out _ HM.out).mono ?_
  rintro e w2 ⟨rfl, hb2⟩
  have HX2 := Lib.hid (HX.out.keep hb2)
  have HN2 := Lib.hid (HN.out.keep hb2)
  have HM2 := Lib.hid (HM.out.keep hb2)
  clear hb2 HX HN HM
  have c0 : w2.cell? ⟨w.heap.size, 0, none⟩ = some (.int .i64 (low : Int)) := HX2.out.cells 0
  have c1 : w2.cell? ⟨w.heap.size, 1, none⟩ = some (.int .i64 (top : Int)) := HX2.out.cells 1
  go_upto_region 8 with fail
  go_quiet (fail)
  have b2 : Below w2.heap.size w2 (w2.drewN nq) := ⟨rfl, rfl, rfl, Nat.le_refl _, fun _ _ => rfl⟩
  have HX3 := Lib.hid (HX2.out.keep b2)
  have HN3 := Lib.hid (HN2.out.keep b2)
  have HM3 := Lib.hid (HM2.out.keep b2)
  clear b2 HX2 HN2 HM2 c0 c1
  generalize w2.drewN nq = w3 at *
  go_wp2_with fail
  refine (HH.out _ HM3.out).mono ?_
  rintro e w4 ⟨rfl, hb4⟩
  have HX4 := Lib.hid (HX3.out.keep hb4)
  have HN4 := Lib.hid (HN3.out.keep hb4)
  clear hb4 HX3 HN3 HM3
  have cx := HX4.out.cells
  go_wp2_with fail
  refine (HNum.out _ HN4.out).mono ?_
  rintro e w5 ⟨rfl, hb5⟩
  have HX5 := Lib.hid (HX4.out.keep hb5)
  have HN5 := Lib.hid (HN4.out.keep hb5)
  clear hb5 HX4 HN4 cx
  have cx := HX5.out.cells
  go_wp2_with fail
  refine (HNum2.out _ HN5.out).mono ?_
  rintro e w6 ⟨rfl, hb6⟩
  have HX6 := Lib.hid (HX5.out.keep hb6)
  clear hb6 HX5 HN5 cx
  go_wp2_with fail
  go_loopw [22, 23] (fun s4 s5 wr => ∃ acc k : Nat, s4 = .int .u64 (acc : Int) ∧ s5 = .int .i64 (k : Int) ∧ k ≤ q + 1 ∧ acc < 18446744073709551616 ∧ Hid (orL acc (upL k q 1) = RES) ∧ wr = w6) (fun _ s5 _ => q + 1 - (intOf s5).toNat)
  case atStart => exact ⟨0, n, rfl, rfl, by omega, by decide, HR.out, rfl⟩
  case round =>
    obtain ⟨acc, k, rfl, rfl, hkn, hacc, HE, rfl⟩ := hrel
    by_cases hlt : k ≤ q
    · have HE2 := HE.out
      unfold upL at HE2
      rw [dif_pos ⟨hlt, by decide⟩, orL] at HE2
      have HE3 := Lib.hid HE2
      have hor := or_bit acc k hacc (by omega)
      have hlt2 := Lib.hid (or_lt acc k hacc (by omega))
      clear HE2 HE
      generalize acc ||| 2 ^ k = acc2 at *
      go_wp2_with fail
      exact ⟨⟨acc2, k + 1, rfl, by go_num, by omega, hlt2.out, HE3, trivial⟩, by simp [intOf]; omega⟩
    · have hR : acc = RES := by
        have h := HE.out
        unfold upL at h
        rw [dif_neg (by omega)] at h
        exact h
      subst hR
      go_wp2_with fail
      go_ret2
      exact ⟨rfl, HX6.out.below⟩

end Go.Proofs.YtlhaidibcocooaaGreatDoor
