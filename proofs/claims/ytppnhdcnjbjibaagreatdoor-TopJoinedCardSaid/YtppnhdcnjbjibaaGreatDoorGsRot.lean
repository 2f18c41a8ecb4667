/- Stable sorting: a rotation. -/
import Derived.Test.YtppnhdcnjbjibaaGreatDoorGsSwap
namespace Go.Proofs.YtppnhdcnjbjibaaGreatDoor
open Go.RowKit

theorem split_len (U : List (Nat × EV)) (j : Nat) (h : j ≤ U.length) : ∃ U1 U2, U = U1 ++ U2 ∧ U1.length = j ∧ U2.length = U.length - j :=
  ⟨U.take j, U.drop j, (List.take_append_drop j U).symm, by simp; omega, by simp⟩
set_option maxRecDepth 100000 in
set_option maxHeartbeats 3200000 in
theorem rotate_any (g N cap kb : Nat) (P X Y S : List (Nat × EV)) (a m b : Nat) (cmp : Value) (w : World) (h : Dat 9 w g N cap kb (P ++ X ++ Y ++ S)) (ha : a = P.length) (hm : m = P.length + X.length) (hb : b = P.length + X.length + Y.length) (hX : 0 < X.length) (hY : 0 < Y.length) (hN : N ≤ 1000000) :
    Calls Tryz.prog 109 #[.slice (some ⟨g, 0, none⟩) N cap, .int .i64 (a : Int), .int .i64 (m : Int), .int .i64 (b : Int), cmp] w fun e w' => e = .returned (.tuple #[]) ∧ Dat 9 w' g N cap kb (P ++ Y ++ X ++ S) ∧ Only g w w' := by
  have hlen := h.len
  have hNb : b ≤ 1000000 := by
    simp at hlen
    omega
  obtain ⟨F, hF⟩ : ∃ F, P ++ Y ++ X ++ S = F := ⟨_, rfl⟩
  rw [hF]
  have HD := Lib.hid h
  have HF := Lib.hid hF
  have e0 : IntKind.i64.wrap ((m : Int) - (a : Int)) = (X.length : Int) := by
    rw [show (m : Int) - (a : Int) = (X.length : Int) by omega]
    exact IntWalk.i64_in _ (by omega)
  have e1 : IntKind.i64.wrap ((b : Int) - (m : Int)) = (Y.length : Int) := by
    rw [show (b : Int) - (m : Int) = (Y.length : Int) by omega]
    exact IntWalk.i64_in _ (by omega)
  obtain ⟨x, hx⟩ : ∃ x, X.length = x := ⟨_, rfl⟩
  obtain ⟨y, hy⟩ : ∃ y, Y.length = y := ⟨_, rfl⟩
  have HZ := Lib.hid (show P.length + x = m ∧ X.length = x ∧ Y.length = y ∧ 0 < x ∧ 0 < y from ⟨by omega, hx, hy, by omega, by omega⟩)
  rw [hx] at e0
  rw [hy] at e1
  have hmm : m ≤ 1000000 := by omega
  clear h hlen hF ha hm hb hX hY hx hy
  go_enter Tryz.func109, Tryz.ntmps109
  go_wp2_with fail
  go_loopw [10, 11] (fun s10 s11 wr => ∃ (i j : Nat) (P' U V S' : List (Nat × EV)), s10 = .int .i64 (i : Int) ∧ s11 = .int .i64 (j : Int) ∧ Hid (Dat 9 wr g N cap kb (P' ++ U ++ V ++ S')) ∧ Hid (P' ++ V ++ U ++ S' = F) ∧ Hid (Only g w wr) ∧ Hid (P'.length + i = m ∧ U.length = i ∧ V.length = j ∧ 0 < i ∧ 0 < j)) (fun s10 s11 _ => (intOf s10).toNat + (intOf s11).toNat)
  case atStart => exact ⟨x, y, P, X, Y, S, rfl, rfl, HD, HF, Lib.hid (Only.refl g w), HZ⟩
  case round =>
    clear HD HF HZ
    obtain ⟨i, j, P', U, V, S', rfl, rfl, HD, HF, HO, HZ⟩ := hrel
    obtain ⟨z1, z2, z3, z4, z5⟩ := HZ.out
    have hN2 : P'.length + U.length + V.length + S'.length = N := by
      have := HD.out.len
      simp at this
      omega
    obtain ⟨p, hp⟩ : ∃ p, P'.length = p := ⟨_, rfl⟩
    have e2 : IntKind.i64.wrap ((m : Int) - (i : Int)) = (p : Int) := by
      rw [show (m : Int) - (i : Int) = (p : Int) by omega]
      exact IntWalk.i64_in _ (by omega)
    by_cases hij : i = j
    · subst hij
      have HS := Lib.hid (swapRange_any g N cap kb P' U [] V S' p m i cmp wr (by simpa using HD.out) (by omega) (by omega) (by simp; omega) (by omega) hN)
      have HF2 := Lib.hid (show P' ++ V ++ [] ++ U ++ S' = F by simpa using HF.out)
      have hne : ((i : Int) != (i : Int)) = false := by simp
      clear z1 z2 z3 z4 z5 hN2 hp HD HF HZ
      go_wp2_with fail
      refine HS.out.mono ?_
      rintro e w2 ⟨rfl, hd2, ho2⟩
      rw [HF2.out] at hd2
      have HD2 := Lib.hid hd2
      have HO2 := Lib.hid (HO.out.trans ho2)
      clear hd2 ho2
      go_wp2_with fail
      go_end0
      exact ⟨rfl, HD2.out, HO2.out⟩
    · have hne : ((i : Int) != (j : Int)) = true := by rw [bne_iff_ne]; omega
      by_cases hgt : j < i
      · obtain ⟨U1, U2, hU, hU1, hU2⟩ := split_len U j (by omega)
        have hD1 := HD.out
        have hF1 := HF.out
        rw [hU] at hD1 hF1
        have hUl : U.length = U1.length + U2.length := by rw [hU]; simp
        have HS := Lib.hid (swapRange_any g N cap kb P' U1 U2 V S' p m j cmp wr (by simpa using hD1) (by omega) (by omega) (by omega) (by omega) hN)
        have hg2 : (j : Int) < (i : Int) := by omega
        have e3 : IntKind.i64.wrap ((i : Int) - (j : Int)) = ((i - j : Nat) : Int) := by
          rw [show (i : Int) - (j : Int) = ((i - j : Nat) : Int) by omega]
          exact IntWalk.i64_in _ (by omega)
        have HZ2 := Lib.hid (show (P' ++ V).length + (i - j) = m ∧ U2.length = i - j ∧ U1.length = j ∧ 0 < i - j ∧ 0 < j from ⟨by simp; omega, by omega, hU1, by omega, z5⟩)
        have HF2 := Lib.hid (show (P' ++ V) ++ U1 ++ U2 ++ S' = F by simpa using hF1)
        have hms : (i - j) + j < i + j := by omega
        clear z1 z2 z3 z4 z5 hN2 hp hU hU1 hU2 hUl hD1 hF1
        generalize hd : i - j = d at *
        clear hd
        go_wp2_with fail
        refine HS.out.mono ?_
        rintro e w2 ⟨rfl, hd2, ho2⟩
        have HD2 := Lib.hid (show Dat 9 w2 g N cap kb ((P' ++ V) ++ U2 ++ U1 ++ S') by simpa using hd2)
        have HO2 := Lib.hid (HO.out.trans ho2)
        clear hd2 ho2
        go_wp2_with fail
        exact ⟨⟨d, j, P' ++ V, U2, U1, S', rfl, rfl, HD2, HF2, HO2, HZ2⟩, by simp [intOf]; omega⟩
      · obtain ⟨V1, V2, hV, hV1, hV2⟩ := split_len V (j - i) (by omega)
        have hD1 := HD.out
        have hF1 := HF.out
        rw [hV] at hD1 hF1
        have hVl : V.length = V1.length + V2.length := by rw [hV]; simp
        obtain ⟨q, hq⟩ : ∃ q, m + j - i = q := ⟨_, rfl⟩
        have HS := Lib.hid (swapRange_any g N cap kb P' U V1 V2 S' p q i cmp wr (by simpa using hD1) (by omega) (by omega) (by omega) (by omega) hN)
        have hg2 : ¬ (j : Int) < (i : Int) := by omega
        have e3 : IntKind.i64.wrap ((j : Int) - (i : Int)) = ((j - i : Nat) : Int) := by
          rw [show (j : Int) - (i : Int) = ((j - i : Nat) : Int) by omega]
          exact IntWalk.i64_in _ (by omega)
        have e4 : IntKind.i64.wrap ((m : Int) + (j : Int)) = (m : Int) + (j : Int) := IntWalk.i64_in _ (by omega)
        have e5 : IntKind.i64.wrap ((m : Int) + (j : Int) - (i : Int)) = (q : Int) := by
          rw [show (m : Int) + (j : Int) - (i : Int) = (q : Int) by omega]
          exact IntWalk.i64_in _ (by omega)
        have HZ2 := Lib.hid (show P'.length + i = m ∧ V2.length = i ∧ V1.length = j - i ∧ 0 < i ∧ 0 < j - i from ⟨by omega, by omega, hV1, z4, by omega⟩)
        have HF2 := Lib.hid (show P' ++ V1 ++ V2 ++ (U ++ S') = F by simpa using hF1)
        have hms : i + (j - i) < i + j := by omega
        clear z1 z2 z3 z4 z5 hN2 hp hV hV1 hV2 hVl hD1 hF1
        generalize hd : j - i = d at *
        clear hd hq
        go_wp2_with fail
        refine HS.out.mono ?_
        rintro e w2 ⟨rfl, hd2, ho2⟩
        have HD2 := Lib.hid (show Dat 9 w2 g N cap kb (P' ++ V2 ++ V1 ++ (U ++ S')) by simpa using hd2)
        have HO2 := Lib.hid (HO.out.trans ho2)
        clear hd2 ho2
        go_wp2_with fail
        exact ⟨⟨i, d, P', V2, V1, U ++ S', rfl, rfl, HD2, HF2, HO2, HZ2⟩, by simp [intOf]; omega⟩
end Go.Proofs.YtppnhdcnjbjibaaGreatDoor
