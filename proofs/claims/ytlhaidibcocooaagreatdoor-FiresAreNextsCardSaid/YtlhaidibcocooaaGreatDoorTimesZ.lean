/- Times, the reference: a part that is made of numbers or names is read, whatever comes out. (Printed by tools/gpartt.py.) -/
import Derived.Test.YtlhaidibcocooaaGreatDoorTimesV
namespace Go.Proofs.YtlhaidibcocooaaGreatDoor
open Go.RowKit Go.Shelf

theorem cut_none (l : List UInt8) (c : UInt8) (h : c ∉ l) : Lib.cut l [c] = (l, [], false) := by
  unfold Lib.cut
  rw [index_none l c h, if_neg (by decide)]
theorem cut_hit (x r : List UInt8) (c : UInt8) (h : c ∉ x) : Lib.cut (x ++ c :: r) [c] = (x, r, true) := by
  unfold Lib.cut
  rw [index_byte x r c h, if_pos (by omega)]
  have e : (x ++ c :: r).drop (x.length + 1) = r := by rw [← List.drop_drop, List.drop_left]; rfl
  simp [e]
theorem cut_any (l : List UInt8) (c : UInt8) (W : World) (hl : l.length ≤ 4096) (hm : MaxLenAt W) : Calls Tryz.prog 66 #[.string (toB l), .string ⟨#[c]⟩] W fun e w' => e = .returned (.tuple #[.string (toB (Lib.cut l [c]).1), .string (toB (Lib.cut l [c]).2.1), .bool (Lib.cut l [c]).2.2]) ∧ Below W.heap.size W w' := by
  obtain ⟨m, hm⟩ := hm
  refine (Tryz.strings_Cut (toB l) ⟨#[c]⟩ m W (by rw [toB_size]; omega) hm).mono ?_
  rintro e w' ⟨rfl, p, rfl⟩
  exact ⟨rfl, ⟨rfl, rfl, rfl, Nat.le_refl _, fun _ _ => rfl⟩⟩
/-- a number or a name, as the reference reads it -/
structure Tok (low top : Nat) (v : Value) (a : List UInt8) (x : Nat) : Prop where
  num : ∀ W, NmAt W v → Calls Tryz.prog 68 #[.agg #[.int .i64 (low : Int), .int .i64 (top : Int), v], .string (toB a)] W fun e w' => e = .returned (.tuple #[.int .i64 (x : Int), .int .i64 2]) ∧ Below W.heap.size W w'
  hi : x < 64
  len : a.length ≤ 3
  bytes : ∀ b ∈ a, b.toNat < 128 ∧ blankP b.toNat = false ∧ b ≠ 42 ∧ b ≠ 44 ∧ b ≠ 45 ∧ b ≠ 47
theorem Tok.no {low top : Nat} {v : Value} {a : List UInt8} {x : Nat} (h : Tok low top v a x) : (47 : UInt8) ∉ a ∧ (45 : UInt8) ∉ a ∧ (42 : UInt8) ∉ a := ⟨fun hm => (h.bytes _ hm).2.2.2.2.2 rfl, fun hm => (h.bytes _ hm).2.2.2.2.1 rfl, fun hm => (h.bytes _ hm).2.2.1 rfl⟩
/-- no panic: some set, some error -/
def PW (w : World) (e : Ending) (w' : World) : Prop := ∃ b er : Nat, e = .returned (.tuple #[.int .u64 (b : Int), .int .i64 (er : Int)]) ∧ b < 18446744073709551616 ∧ Below w.heap.size w w'
theorem not_star {l : List UInt8} (h : (42 : UInt8) ∉ l) : ((toB l).toList == [42]) = false := by
  have e : (toB l).toList = l := by simp [toB, ByteArray.toList_eq]
  rw [e, beq_eq_false_iff_ne]
  intro h2
  rw [h2] at h
  exact h (by simp)

set_option maxRecDepth 100000 in
set_option maxHeartbeats 3200000 in
theorem pt_star0 (low top : Nat) (v : Value)  (w : World) (_hh : top < 64)  (hv : ∃ A l c, v = .slice A l c) (hnm : NmAt w v) (hm : MaxLenAt w) :
    Calls Tryz.prog 30 #[.agg #[.int .i64 (low : Int), .int .i64 (top : Int), v], .string (toB ([42, 47, 48]))] w (PW w) := by
  have HS := Lib.hid (fun W h => cut_any [42, 47, 48] 47 W (by decide) h)
  rw [show Lib.cut [42, 47, 48] [47] = ([42], [48], true) by decide] at HS
  have hd := dig_ok (n := 0) (by decide)
  have e0 : Lib.decDigits 0 = [48] := by decide +kernel
  rw [e0] at hd
  have HT := Lib.hid (fun W => trim_digits 0 (by decide) W)
  rw [e0] at HT
  have HA := Lib.hid (fun W => Tryz.strconv_Atoi (toB [48]) 0 (by decide) hd.2.2.2.1 W)
  have hs2 : (toB [48]).size ≤ 2 := by decide
  clear hd e0
  generalize toB [42, 47, 48] = tp at *
  have HT : Hid (∀ W, Calls Tryz.prog 27 #[.string (toB [48]), .string ⟨#[48, 49, 50, 51, 52, 53, 54, 55, 56, 57]⟩] W fun e w' => e = .returned (.string ⟨#[]⟩) ∧ Below W.heap.size W w') := HT
  have HS : Hid (∀ W, MaxLenAt W → Calls Tryz.prog 66 #[.string tp, .string ⟨#[47]⟩] W fun e w' => e = .returned (.tuple #[.string ⟨#[42]⟩, .string (toB [48]), .bool true]) ∧ Below W.heap.size W w') := HS
  generalize toB [48] = st at *
  obtain ⟨A, l, c, rfl⟩ := hv
  have HX := Lib.hid (BX.start w #[.int .i64 (low : Int), .int .i64 (top : Int), .slice A l c] 75)
  have b1 := (Below.refl w.heap.size w).alloc (Nat.le_refl _) (.cells #[.int .i64 (low : Int), .int .i64 (top : Int), .slice A l c] 75)
  have HM := Lib.hid (hm.keep b1)
  have HN := Lib.hid (hnm.keep b1)
  obtain ⟨Q, hQ⟩ : ∃ Q, PW w = Q := ⟨_, rfl⟩
  rw [hQ]
  have HQ := Lib.hid hQ
  clear hm hnm b1 hQ
  go_enter Tryz.func30, Tryz.ntmps30
  go_wp2_with fail
  generalize w.alloc (.cells #[.int .i64 (low : Int), .int .i64 (top : Int), .slice A l c] 75) = w1 at *
  refine (HS.out _ HM.out).mono ?_
  rintro e w2 ⟨rfl, hb2⟩
  have HX2 := Lib.hid (HX.out.keep hb2)
  have HM2 := Lib.hid (HM.out.keep hb2)
  have HN2 := Lib.hid (HN.out.keep hb2)
  clear hb2 HX HM HN HS
  go_wp2_with fail
  refine (HA.out _).mono ?_
  rintro e w3 ⟨rfl, tt, hw3⟩
  have hb3 : Below w2.heap.size w2 w3 := by rw [hw3]; exact Joins.below_bytesWorld w2.heap.size w2 _ tt (Nat.le_refl _)
  have HX3 := Lib.hid (HX2.out.keep hb3)
  have HM3 := Lib.hid (HM2.out.keep hb3)
  have HN3 := Lib.hid (HN2.out.keep hb3)
  clear hb3 hw3 HX2 HM2 HN2
  go_wp2_with fail
  refine (HT.out _).mono ?_
  rintro e w4 ⟨rfl, hb4⟩
  have HX4 := Lib.hid (HX3.out.keep hb4)
  have HM4 := Lib.hid (HM3.out.keep hb4)
  have HN4 := Lib.hid (HN3.out.keep hb4)
  clear hb4 HX3 HM3 HN3
  have c0 : w4.cell? ⟨w.heap.size, 0, none⟩ = some (.int .i64 (low : Int)) := HX4.out.cells 0
  have c1 : w4.cell? ⟨w.heap.size, 1, none⟩ = some (.int .i64 (top : Int)) := HX4.out.cells 1
  go_upto_region 8 with fail
  go_quiet (fail)
  have b2 : Below w4.heap.size w4 (w4.drewN nq) := ⟨rfl, rfl, rfl, Nat.le_refl _, fun _ _ => rfl⟩
  have HX5 := Lib.hid (HX4.out.keep b2)
  have HM5 := Lib.hid (HM4.out.keep b2)
  have HN5 := Lib.hid (HN4.out.keep b2)
  clear b2 HX4 HM4 HN4 c0 c1
  generalize w4.drewN nq = w5 at *
  go_wp2_with fail
  rw [← HQ.out]
  exact ⟨0, 3, rfl, by decide, HX5.out.below⟩

set_option maxRecDepth 100000 in
set_option maxHeartbeats 3200000 in
theorem pt_tok (low top : Nat) (v : Value) (a : List UInt8) (x : Nat) (w : World) (_hh : top < 64) (ha : Tok low top v a x) (hv : ∃ A l c, v = .slice A l c) (hnm : NmAt w v) (hm : MaxLenAt w) :
    Calls Tryz.prog 30 #[.agg #[.int .i64 (low : Int), .int .i64 (top : Int), v], .string (toB (a))] w (PW w) := by
  obtain ⟨n47, n45, n42⟩ := ha.no
  have HS := Lib.hid (fun W h => cut_any a 47 W (by have := ha.len; omega) h)
  rw [cut_none a 47 n47] at HS
  have HH := Lib.hid (fun W h => cut_any a 45 W (by have := ha.len; omega) h)
  rw [cut_none a 45 n45] at HH
  have HNa := Lib.hid (fun W h => ha.num W h)
  have hne := not_star n42
  have hx := ha.hi
  clear n47 n45 n42 ha
  generalize toB a = ta at *
  obtain ⟨A, l, c, rfl⟩ := hv
  have HX := Lib.hid (BX.start w #[.int .i64 (low : Int), .int .i64 (top : Int), .slice A l c] 75)
  have b1 := (Below.refl w.heap.size w).alloc (Nat.le_refl _) (.cells #[.int .i64 (low : Int), .int .i64 (top : Int), .slice A l c] 75)
  have HM := Lib.hid (hm.keep b1)
  have HN := Lib.hid (hnm.keep b1)
  obtain ⟨Q, hQ⟩ : ∃ Q, PW w = Q := ⟨_, rfl⟩
  rw [hQ]
  have HQ := Lib.hid hQ
  clear hm hnm b1 hQ
  go_enter Tryz.func30, Tryz.ntmps30
  go_wp2_with fail
  generalize w.alloc (.cells #[.int .i64 (low : Int), .int .i64 (top : Int), .slice A l c] 75) = w1 at *
  refine (HS.out _ HM.out).mono ?_
  rintro e w2 ⟨rfl, hb2⟩
  have HX2 := Lib.hid (HX.out.keep hb2)
  have HM2 := Lib.hid (HM.out.keep hb2)
  have HN2 := Lib.hid (HN.out.keep hb2)
  clear hb2 HX HM HN HS
  have c0 : w2.cell? ⟨w.heap.size, 0, none⟩ = some (.int .i64 (low : Int)) := HX2.out.cells 0
  have c1 : w2.cell? ⟨w.heap.size, 1, none⟩ = some (.int .i64 (top : Int)) := HX2.out.cells 1
  go_upto_region 8 with fail
  go_quiet (fail)
  have b2 : Below w2.heap.size w2 (w2.drewN nq) := ⟨rfl, rfl, rfl, Nat.le_refl _, fun _ _ => rfl⟩
  have HX5 := Lib.hid (HX2.out.keep b2)
  have HM5 := Lib.hid (HM2.out.keep b2)
  have HN5 := Lib.hid (HN2.out.keep b2)
  clear b2 HX2 HM2 HN2 c0 c1
  generalize w2.drewN nq = w5 at *
  go_wp2_with fail
  refine (HH.out _ HM5.out).mono ?_
  rintro e w6 ⟨rfl, hb6⟩
  have HX6 := Lib.hid (HX5.out.keep hb6)
  have HN6 := Lib.hid (HN5.out.keep hb6)
  clear hb6 HX5 HN5 HM5 HH
  have cx := HX6.out.cells
  go_wp2_with fail
  refine (HNa.out _ HN6.out).mono ?_
  rintro e w7 ⟨rfl, hb7⟩
  have HX7 := Lib.hid (HX6.out.keep hb7)
  have HN7 := Lib.hid (HN6.out.keep hb7)
  clear hb7 HX6 HN6 cx
  have cx := HX7.out.cells
  go_wp2_with fail
  refine (HNa.out _ HN7.out).mono ?_
  rintro e w8 ⟨rfl, hb8⟩
  have HX8 := Lib.hid (HX7.out.keep hb8)
  clear hb8 HX7 HN7 cx
  go_wp2_with fail
  go_loopw [22, 23] (fun s4 s5 wr => ∃ acc k : Nat, s4 = .int .u64 (acc : Int) ∧ s5 = .int .i64 (k : Int) ∧ k ≤ x + 99 ∧ acc < 18446744073709551616 ∧ wr = w8) (fun _ s5 _ => x + 99 - (intOf s5).toNat)
  case atStart => exact ⟨0, x, rfl, rfl, by omega, by decide, rfl⟩
  case round =>
    obtain ⟨acc, k, rfl, rfl, hkn, hacc, rfl⟩ := hrel
    by_cases hlt : k ≤ x
    · have hor := or_bit acc k hacc (by omega)
      have hlt2 := Lib.hid (or_lt acc k hacc (by omega))
      generalize acc ||| 2 ^ k = acc2 at *
      go_wp2_with fail
      exact ⟨⟨acc2, k + 1, rfl, by go_num, by omega, hlt2.out, trivial⟩, by simp [intOf]; omega⟩
    · go_wp2_with fail
      rw [← HQ.out]
      exact ⟨acc, 0, rfl, hacc, HX8.out.below⟩

set_option maxRecDepth 100000 in
set_option maxHeartbeats 3200000 in
theorem pt_range (low top : Nat) (v : Value) (a b : List UInt8) (x y : Nat) (w : World) (_hh : top < 64) (ha : Tok low top v a x) (hb : Tok low top v b y) (hv : ∃ A l c, v = .slice A l c) (hnm : NmAt w v) (hm : MaxLenAt w) :
    Calls Tryz.prog 30 #[.agg #[.int .i64 (low : Int), .int .i64 (top : Int), v], .string (toB (a ++ 45 :: b))] w (PW w) := by
  obtain ⟨n47, n45, n42⟩ := ha.no
  obtain ⟨m47, m45, m42⟩ := hb.no
  have hla := ha.len
  have hlb := hb.len
  have h47 : (47 : UInt8) ∉ a ++ 45 :: b := by simp [n47, m47]
  have h42 : (42 : UInt8) ∉ a ++ 45 :: b := by simp [n42, m42]
  have HH := Lib.hid (fun W h => cut_any (a ++ 45 :: b) 45 W (by simp; omega) h)
  rw [cut_hit a b 45 n45] at HH
  have HNa := Lib.hid (fun W h => ha.num W h)
  have HNb := Lib.hid (fun W h => hb.num W h)
  have hne := not_star h42
  have hx := ha.hi
  have hy := hb.hi
  have HS := Lib.hid (fun W h => cut_any (a ++ 45 :: b) 47 W (by simp; omega) h)
  rw [cut_none (a ++ 45 :: b) 47 h47] at HS
  clear n47 n45 n42 m47 m45 m42 ha hb hla hlb h47 h42
  generalize toB (a ++ 45 :: b) = tp at *
  generalize toB a = ta at *
  generalize toB b = tb at *
  obtain ⟨A, l, c, rfl⟩ := hv
  have HX := Lib.hid (BX.start w #[.int .i64 (low : Int), .int .i64 (top : Int), .slice A l c] 75)
  have b1 := (Below.refl w.heap.size w).alloc (Nat.le_refl _) (.cells #[.int .i64 (low : Int), .int .i64 (top : Int), .slice A l c] 75)
  have HM := Lib.hid (hm.keep b1)
  have HN := Lib.hid (hnm.keep b1)
  obtain ⟨Q, hQ⟩ : ∃ Q, PW w = Q := ⟨_, rfl⟩
  rw [hQ]
  have HQ := Lib.hid hQ
  clear hm hnm b1 hQ
  go_enter Tryz.func30, Tryz.ntmps30
  go_wp2_with fail
  generalize w.alloc (.cells #[.int .i64 (low : Int), .int .i64 (top : Int), .slice A l c] 75) = w1 at *
  refine (HS.out _ HM.out).mono ?_
  rintro e w2 ⟨rfl, hb2⟩
  have HX2 := Lib.hid (HX.out.keep hb2)
  have HM2 := Lib.hid (HM.out.keep hb2)
  have HN2 := Lib.hid (HN.out.keep hb2)
  clear hb2 HX HM HN HS
  have c0 : w2.cell? ⟨w.heap.size, 0, none⟩ = some (.int .i64 (low : Int)) := HX2.out.cells 0
  have c1 : w2.cell? ⟨w.heap.size, 1, none⟩ = some (.int .i64 (top : Int)) := HX2.out.cells 1
  go_upto_region 8 with fail
  go_quiet (fail)
  have b2 : Below w2.heap.size w2 (w2.drewN nq) := ⟨rfl, rfl, rfl, Nat.le_refl _, fun _ _ => rfl⟩
  have HX5 := Lib.hid (HX2.out.keep b2)
  have HM5 := Lib.hid (HM2.out.keep b2)
  have HN5 := Lib.hid (HN2.out.keep b2)
  clear b2 HX2 HM2 HN2 c0 c1
  generalize w2.drewN nq = w5 at *
  go_wp2_with fail
  refine (HH.out _ HM5.out).mono ?_
  rintro e w6 ⟨rfl, hb6⟩
  have HX6 := Lib.hid (HX5.out.keep hb6)
  have HN6 := Lib.hid (HN5.out.keep hb6)
  clear hb6 HX5 HN5 HM5 HH
  have cx := HX6.out.cells
  go_wp2_with fail
  refine (HNa.out _ HN6.out).mono ?_
  rintro e w7 ⟨rfl, hb7⟩
  have HX7 := Lib.hid (HX6.out.keep hb7)
  have HN7 := Lib.hid (HN6.out.keep hb7)
  clear hb7 HX6 HN6 cx
  have cx := HX7.out.cells
  go_wp2_with fail
  refine (HNb.out _ HN7.out).mono ?_
  rintro e w8 ⟨rfl, hb8⟩
  have HX8 := Lib.hid (HX7.out.keep hb8)
  clear hb8 HX7 HN7 cx
  by_cases hxy : (y : Int) < (x : Int)
  · go_wp2_with fail
    rw [← HQ.out]
    exact ⟨0, 3, rfl, by decide, HX8.out.below⟩
  · go_wp2_with fail
    go_loopw [22, 23] (fun s4 s5 wr => ∃ acc k : Nat, s4 = .int .u64 (acc : Int) ∧ s5 = .int .i64 (k : Int) ∧ k ≤ y + 99 ∧ acc < 18446744073709551616 ∧ wr = w8) (fun _ s5 _ => y + 99 - (intOf s5).toNat)
    case atStart => exact ⟨0, x, rfl, rfl, by omega, by decide, rfl⟩
    case round =>
      obtain ⟨acc, k, rfl, rfl, hkn, hacc, rfl⟩ := hrel
      by_cases hlt : k ≤ y
      · have hor := or_bit acc k hacc (by omega)
        have hlt2 := Lib.hid (or_lt acc k hacc (by omega))
        generalize acc ||| 2 ^ k = acc2 at *
        go_wp2_with fail
        exact ⟨⟨acc2, k + 1, rfl, by go_num, by omega, hlt2.out, trivial⟩, by simp [intOf]; omega⟩
      · go_wp2_with fail
        rw [← HQ.out]
        exact ⟨acc, 0, rfl, hacc, HX8.out.below⟩

set_option maxRecDepth 100000 in
set_option maxHeartbeats 3200000 in
theorem pt_rangeBy (low top : Nat) (v : Value) (a b : List UInt8) (x y n : Nat) (w : World) (_hh : top < 64) (ha : Tok low top v a x) (hb : Tok low top v b y) (hn1 : 1 ≤ n) (hn2 : n < 100) (hv : ∃ A l c, v = .slice A l c) (hnm : NmAt w v) (hm : MaxLenAt w) :
    Calls Tryz.prog 30 #[.agg #[.int .i64 (low : Int), .int .i64 (top : Int), v], .string (toB ((a ++ 45 :: b) ++ 47 :: Lib.decDigits n))] w (PW w) := by
  obtain ⟨n47, n45, n42⟩ := ha.no
  obtain ⟨m47, m45, m42⟩ := hb.no
  have hla := ha.len
  have hlb := hb.len
  have h47 : (47 : UInt8) ∉ a ++ 45 :: b := by simp [n47, m47]
  have h42 : (42 : UInt8) ∉ a ++ 45 :: b := by simp [n42, m42]
  have HH := Lib.hid (fun W h => cut_any (a ++ 45 :: b) 45 W (by simp; omega) h)
  rw [cut_hit a b 45 n45] at HH
  have HNa := Lib.hid (fun W h => ha.num W h)
  have HNb := Lib.hid (fun W h => hb.num W h)
  have hne := not_star h42
  have hx := ha.hi
  have hy := hb.hi
  have hd := dig_ok hn2
  have HS := Lib.hid (fun W h => cut_any ((a ++ 45 :: b) ++ 47 :: Lib.decDigits n) 47 W (by simp; omega) h)
  rw [cut_hit (a ++ 45 :: b) (Lib.decDigits n) 47 h47] at HS
  have HT := Lib.hid (fun W => trim_digits n hn2 W)
  have HA := Lib.hid (fun W => Tryz.strconv_Atoi (toB (Lib.decDigits n)) (n : Int) (by rw [toB_size]; omega) hd.2.2.2.1 W)
  have hs2 : (toB (Lib.decDigits n)).size ≤ 2 := by rw [toB_size]; omega
  have HT : Hid (∀ W, Calls Tryz.prog 27 #[.string (toB (Lib.decDigits n)), .string ⟨#[48, 49, 50, 51, 52, 53, 54, 55, 56, 57]⟩] W fun e w' => e = .returned (.string ⟨#[]⟩) ∧ Below W.heap.size W w') := HT
  clear n47 n45 n42 m47 m45 m42 ha hb hla hlb h47 h42 hd
  generalize toB ((a ++ 45 :: b) ++ 47 :: Lib.decDigits n) = tq at *
  generalize toB (a ++ 45 :: b) = tp at *
  generalize toB (Lib.decDigits n) = st at *
  generalize toB a = ta at *
  generalize toB b = tb at *
  obtain ⟨A, l, c, rfl⟩ := hv
  have HX := Lib.hid (BX.start w #[.int .i64 (low : Int), .int .i64 (top : Int), .slice A l c] 75)
  have b1 := (Below.refl w.heap.size w).alloc (Nat.le_refl _) (.cells #[.int .i64 (low : Int), .int .i64 (top : Int), .slice A l c] 75)
  have HM := Lib.hid (hm.keep b1)
  have HN := Lib.hid (hnm.keep b1)
  obtain ⟨Q, hQ⟩ : ∃ Q, PW w = Q := ⟨_, rfl⟩
  rw [hQ]
  have HQ := Lib.hid hQ
  clear hm hnm b1 hQ
  go_enter Tryz.func30, Tryz.ntmps30
  go_wp2_with fail
  generalize w.alloc (.cells #[.int .i64 (low : Int), .int .i64 (top : Int), .slice A l c] 75) = w1 at *
  refine (HS.out _ HM.out).mono ?_
  rintro e w2 ⟨rfl, hb2⟩
  have HX2 := Lib.hid (HX.out.keep hb2)
  have HM2 := Lib.hid (HM.out.keep hb2)
  have HN2 := Lib.hid (HN.out.keep hb2)
  clear hb2 HX HM HN HS
  go_wp2_with fail
  refine (HA.out _).mono ?_
  rintro e w3 ⟨rfl, tt, hw3⟩
  have hb3 : Below w2.heap.size w2 w3 := by rw [hw3]; exact Joins.below_bytesWorld w2.heap.size w2 _ tt (Nat.le_refl _)
  have HX3 := Lib.hid (HX2.out.keep hb3)
  have HM3 := Lib.hid (HM2.out.keep hb3)
  have HN3 := Lib.hid (HN2.out.keep hb3)
  clear hb3 hw3 HX2 HM2 HN2
  go_wp2_with fail
  refine (HT.out _).mono ?_
  rintro e w4 ⟨rfl, hb4⟩
  have HX4 := Lib.hid (HX3.out.keep hb4)
  have HM4 := Lib.hid (HM3.out.keep hb4)
  have HN4 := Lib.hid (HN3.out.keep hb4)
  clear hb4 HX3 HM3 HN3
  have hnz : ((n : Int) == 0) = false := by rw [beq_eq_false_iff_ne]; omega
  have c0 : w4.cell? ⟨w.heap.size, 0, none⟩ = some (.int .i64 (low : Int)) := HX4.out.cells 0
  have c1 : w4.cell? ⟨w.heap.size, 1, none⟩ = some (.int .i64 (top : Int)) := HX4.out.cells 1
  go_upto_region 8 with fail
  go_quiet (fail)
  have b2 : Below w4.heap.size w4 (w4.drewN nq) := ⟨rfl, rfl, rfl, Nat.le_refl _, fun _ _ => rfl⟩
  have HX5 := Lib.hid (HX4.out.keep b2)
  have HM5 := Lib.hid (HM4.out.keep b2)
  have HN5 := Lib.hid (HN4.out.keep b2)
  clear b2 HX4 HM4 HN4 c0 c1
  generalize w4.drewN nq = w5 at *
  go_wp2_with fail
  refine (HH.out _ HM5.out).mono ?_
  rintro e w6 ⟨rfl, hb6⟩
  have HX6 := Lib.hid (HX5.out.keep hb6)
  have HN6 := Lib.hid (HN5.out.keep hb6)
  clear hb6 HX5 HN5 HM5 HH
  have cx := HX6.out.cells
  go_wp2_with fail
  refine (HNa.out _ HN6.out).mono ?_
  rintro e w7 ⟨rfl, hb7⟩
  have HX7 := Lib.hid (HX6.out.keep hb7)
  have HN7 := Lib.hid (HN6.out.keep hb7)
  clear hb7 HX6 HN6 cx
  have cx := HX7.out.cells
  go_wp2_with fail
  refine (HNb.out _ HN7.out).mono ?_
  rintro e w8 ⟨rfl, hb8⟩
  have HX8 := Lib.hid (HX7.out.keep hb8)
  clear hb8 HX7 HN7 cx
  by_cases hxy : (y : Int) < (x : Int)
  · go_wp2_with fail
    rw [← HQ.out]
    exact ⟨0, 3, rfl, by decide, HX8.out.below⟩
  · go_wp2_with fail
    go_loopw [22, 23] (fun s4 s5 wr => ∃ acc k : Nat, s4 = .int .u64 (acc : Int) ∧ s5 = .int .i64 (k : Int) ∧ k ≤ y + 99 ∧ acc < 18446744073709551616 ∧ wr = w8) (fun _ s5 _ => y + 99 - (intOf s5).toNat)
    case atStart => exact ⟨0, x, rfl, rfl, by omega, by decide, rfl⟩
    case round =>
      obtain ⟨acc, k, rfl, rfl, hkn, hacc, rfl⟩ := hrel
      by_cases hlt : k ≤ y
      · have hor := or_bit acc k hacc (by omega)
        have hlt2 := Lib.hid (or_lt acc k hacc (by omega))
        generalize acc ||| 2 ^ k = acc2 at *
        go_wp2_with fail
        exact ⟨⟨acc2, k + n, rfl, by go_num, by omega, hlt2.out, trivial⟩, by simp [intOf]; omega⟩
      · go_wp2_with fail
        rw [← HQ.out]
        exact ⟨acc, 0, rfl, hacc, HX8.out.below⟩

end Go.Proofs.YtlhaidibcocooaaGreatDoor
