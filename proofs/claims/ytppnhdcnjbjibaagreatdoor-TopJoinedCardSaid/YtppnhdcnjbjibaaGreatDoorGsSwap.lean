/- Stable sorting: two ranges are exchanged; a rotation. -/
import Derived.Test.YtppnhdcnjbjibaaGreatDoorGsMem
import Derived.IntWalk
import Derived.BigQuiet
import Derived.StillTailTactics
import Derived.Deep.DeepCutAuto
import Derived.Deep.RegionHeld3
import Derived.Deep.RegionLaw
namespace Go.Proofs.YtppnhdcnjbjibaaGreatDoor
open Go.RowKit

/-- the exchange so far -/
def exL (P X Q Y S : List (Nat × EV)) (k : Nat) : List (Nat × EV) := P ++ Y.take k ++ (X.drop k ++ Q ++ X.take k) ++ (Y.drop k ++ S)
theorem exL_zero (P X Q Y S : List (Nat × EV)) : exL P X Q Y S 0 = P ++ X ++ Q ++ Y ++ S := by simp [exL]
theorem exL_end (P X Q Y S : List (Nat × EV)) (h : X.length = Y.length) : exL P X Q Y S X.length = P ++ Y ++ Q ++ X ++ S := by
  unfold exL
  rw [List.drop_length, List.take_length, h, List.drop_length, List.take_length]
  simp
theorem exL_step (P X Q Y S : List (Nat × EV)) (k : Nat) (h : X.length = Y.length) (hk : k < X.length) : ∃ A M B u v,
    exL P X Q Y S k = A ++ u :: (M ++ v :: B) ∧ exL P X Q Y S (k + 1) = A ++ v :: (M ++ u :: B) ∧ A.length = P.length + k ∧ A.length + 1 + M.length = P.length + X.length + Q.length + k := by
  refine ⟨P ++ Y.take k, X.drop (k + 1) ++ Q ++ X.take k, Y.drop (k + 1) ++ S, X[k], Y[k]'(by omega), ?_, ?_, by simp; omega, by simp; omega⟩
  · unfold exL
    rw [List.drop_eq_getElem_cons hk, List.drop_eq_getElem_cons (by omega : k < Y.length)]
    simp only [List.append_assoc, List.cons_append]
  · unfold exL
    rw [List.take_succ_eq_append_getElem hk, List.take_succ_eq_append_getElem (by omega : k < Y.length)]
    simp only [List.append_assoc, List.cons_append, List.nil_append]
set_option maxRecDepth 100000 in
set_option maxHeartbeats 3200000 in
theorem swapRange_any (g N cap kb : Nat) (P X Q Y S : List (Nat × EV)) (a b n : Nat) (cmp : Value) (w : World) (h : Dat 9 w g N cap kb (P ++ X ++ Q ++ Y ++ S)) (hxy : X.length = Y.length) (ha : a = P.length) (hb : b = P.length + X.length + Q.length) (hn : n = X.length) (hN : N ≤ 1000000) :
    Calls Tryz.prog 126 #[.slice (some ⟨g, 0, none⟩) N cap, .int .i64 (a : Int), .int .i64 (b : Int), .int .i64 (n : Int), cmp] w fun e w' => e = .returned (.tuple #[]) ∧ Dat 9 w' g N cap kb (P ++ Y ++ Q ++ X ++ S) ∧ Only g w w' := by
  have hlen := h.len
  have hNb : a + n ≤ 1000000 ∧ b + n ≤ 1000000 := by
    simp at hlen
    omega
  rw [← exL_zero] at h
  have HD := Lib.hid h
  have HE := Lib.hid (fun k hk => exL_step P X Q Y S k hxy hk)
  have HF := Lib.hid (exL_end P X Q Y S hxy)
  have HA := Lib.hid ha
  have HBb := Lib.hid hb
  have HNn := Lib.hid hn
  clear h hlen ha hb hn
  go_enter Tryz.func126, Tryz.ntmps126
  go_wp2_with fail
  go_loopw [10] (fun s10 wr => ∃ k : Nat, s10 = .int .i64 (k : Int) ∧ k ≤ n ∧ Hid (Dat 9 wr g N cap kb (exL P X Q Y S k)) ∧ Hid (Only g w wr)) (fun s10 _ => n - (intOf s10).toNat)
  case atStart => exact ⟨0, rfl, Nat.zero_le _, HD, Lib.hid (Only.refl g w)⟩
  case round =>
    clear HD
    obtain ⟨k, rfl, hk, HD, HO⟩ := hrel
    by_cases hlt : k < n
    · have ha := HA.out
      have hb := HBb.out
      have hn := HNn.out
      obtain ⟨A, M, B, ⟨ut, u0⟩, ⟨vt, v0⟩, h1, h2, h3, h4⟩ := HE.out k (by omega)
      have hD1 := HD.out
      rw [h1] at hD1
      obtain ⟨p, hp⟩ : ∃ p, p = a + k := ⟨_, rfl⟩
      obtain ⟨q, hq⟩ : ∃ q, q = b + k := ⟨_, rfl⟩
      have hpA : p = A.length := by omega
      have hqA : q = A.length + 1 + M.length := by omega
      have HS := Lib.hid (hD1.swap hpA hqA)
      rw [← h2] at HS
      obtain ⟨l1, x0⟩ := hD1.at hpA
      have hD2 := hD1
      rw [show A ++ (ut, u0) :: (M ++ (vt, v0) :: B) = (A ++ (ut, u0) :: M) ++ (vt, v0) :: B by simp] at hD2
      obtain ⟨l2, y0⟩ := hD2.at (i := q) (by simp; omega)
      have hz := hD1.fz
      have e1 : IntKind.i64.wrap ((a : Int) + (k : Int)) = (p : Int) := by
        rw [show (a : Int) + (k : Int) = (p : Int) by omega]
        exact IntWalk.i64_in _ (by omega)
      have e2 : IntKind.i64.wrap ((b : Int) + (k : Int)) = (q : Int) := by
        rw [show (b : Int) + (k : Int) = (q : Int) by omega]
        exact IntWalk.i64_in _ (by omega)
      have i1 : (p : Int) < (N : Int) := by omega
      have i2 : (q : Int) < (N : Int) := by omega
      have hpq : p ≠ q := by omega
      have hlk : (k : Int) < (n : Int) := by omega
      have HO2 := Lib.hid (((HO.out).trans (putE_only _ g p v0)).trans (putE_only _ g q u0))
      unfold putE at HS HO2
      clear h1 h2 h3 h4 hD1 hD2 hpA hqA ha hb hn hp hq
      try dsimp only [k0] at x0 y0 HS HO2
      go_upto_region 3 with fail
      go_region_law (fail)
      all_goals
        go_wp2_with fail
        exact ⟨⟨k + 1, by go_num, by omega, Lib.hid HS.out.drew, Lib.hid (HO2.out.drewN 1)⟩, by simp [intOf]; omega⟩
    · obtain rfl : k = n := by omega
      have hD1 := HD.out
      rw [HNn.out, HF.out] at hD1
      have HZ := Lib.hid hD1
      clear hD1
      go_wp2_with fail
      go_end0
      exact ⟨rfl, HZ.out, HO.out⟩
end Go.Proofs.YtppnhdcnjbjibaaGreatDoor
