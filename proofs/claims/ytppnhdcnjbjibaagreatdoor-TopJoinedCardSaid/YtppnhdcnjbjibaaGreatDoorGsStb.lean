/- Stable sorting: slices.stableCmpFunc, slices.SortStableFunc. -/
import Derived.Test.YtppnhdcnjbjibaaGreatDoorGsTwo
namespace Go.Proofs.YtppnhdcnjbjibaaGreatDoor
open Go.RowKit Go.Sort

set_option maxRecDepth 100000 in
set_option maxHeartbeats 3200000 in
theorem stable_any (g N cap kb : Nat) (L : List (Nat × EV)) (w : World) (h : Dat 9 w g N cap kb L) (hr : Rise L) (hg : ∀ p ∈ L, goodE p.2) (hN : N ≤ 1000000) :
    Calls Tryz.prog 52 #[.slice (some ⟨g, 0, none⟩) N cap, .int .i64 (N : Int), .func (.func 25) #[.agg #[.string ⟨#[44]⟩, .slice (some ⟨kb, 0, none⟩) 1 1, .bool false, .bool false, .bool false]] #[]] w fun e w' => e = .returned (.tuple #[]) ∧ (∃ Z : List (Nat × EV), Z.Perm L ∧ Srt keyE Z ∧ Dat 9 w' g N cap kb Z) ∧ Only g w w' := by
  have hl := h.len
  have HH := Lib.hid (And.intro hl (And.intro hr hg))
  have HD := Lib.hid h
  clear h hl hr hg
  go_enter Tryz.func52, Tryz.ntmps52
  go_wp2_with fail
  go_loopw [7, 8] (fun s7 s8 wr => ∃ (a b : Nat) (D : List (List (Nat × EV))), s7 = .int .i64 (a : Int) ∧ s8 = .int .i64 (b : Int) ∧ Hid (a = D.flatten.length ∧ a ≤ N ∧ b = a + 20) ∧ Hid (FirstS keyE L 20 D) ∧ Hid (Dat 9 wr g N cap kb (D.flatten ++ L.drop D.flatten.length)) ∧ Hid (Only g w wr)) (fun s7 _ _ => N - (intOf s7).toNat)
  case atStart => exact ⟨0, 20, [], rfl, rfl, Lib.hid ⟨rfl, Nat.zero_le _, rfl⟩, Lib.hid (FirstS.nil _ _ _), by simpa using HD, Lib.hid (Only.refl g w)⟩
  case round =>
    clear HD
    obtain ⟨a, b, D, rfl, rfl, HA, HF, HD, HO⟩ := hrel
    obtain ⟨hl, hr, hg⟩ := HH.out
    by_cases hbn : b ≤ N
    · have HC := Lib.hid (ins_more g N cap kb L D a b wr hl HA.out.1 HA.out.2.2 hbn HF.out HD.out hr hg hN)
      have hz : (b : Int) ≤ (N : Int) := Int.ofNat_le.2 hbn
      have hw : IntKind.i64.wrap ((b : Int) + 20) = ((b + 20 : Nat) : Int) := by
        rw [show (b : Int) + 20 = ((b + 20 : Nat) : Int) by omega]
        exact IntWalk.i64_in _ (by omega)
      have hms : N - b < N - a := by have := HA.out; omega
      clear hl hr hg
      generalize hc : b + 20 = c at *
      have HCc := Lib.hid hc
      clear hc
      go_wp2_with fail
      refine HC.out.mono ?_
      rintro e w2 ⟨rfl, ⟨D', hb', hf', hd'⟩, ho'⟩
      have HZ := Lib.hid (And.intro hb' (And.intro hf' (And.intro hd' (HO.out.trans ho'))))
      clear hb' hf' hd' ho'
      go_wp2_with fail
      exact ⟨⟨b, c, D', rfl, rfl, Lib.hid ⟨HZ.out.1, hbn, HCc.out.symm⟩, Lib.hid HZ.out.2.1, Lib.hid HZ.out.2.2.1, Lib.hid HZ.out.2.2.2⟩, by simp [intOf]; omega⟩
    · have HC := Lib.hid (ins_rest g N cap kb L D a wr hl HA.out.1 HA.out.2.1 (by have := HA.out.2.2; omega) HF.out HD.out hr hg hN)
      have hz : ¬ (b : Int) ≤ (N : Int) := fun hh => hbn (Int.ofNat_le.1 hh)
      clear hl hr hg hbn
      go_wp2_with fail
      refine HC.out.mono ?_
      rintro e w2 ⟨rfl, ⟨T0, hp0, hd0⟩, ho0⟩
      have HP0 := Lib.hid hp0
      have HD0 := Lib.hid hd0
      have HO0 := Lib.hid (HO.out.trans ho0)
      clear hp0 hd0 ho0 HD HO HF HC
      go_wp2_with fail
      go_loopw [6] (fun s6 wx => ∃ (bs : Nat) (T : List (List (Nat × EV))), s6 = .int .i64 (bs : Int) ∧ Hid (0 < bs ∧ bs ≤ 2 * N + 20) ∧ Hid (PassS keyE L bs [] T) ∧ Hid (Dat 9 wx g N cap kb T.flatten) ∧ Hid (Only g w wx)) (fun s6 _ => N - (intOf s6).toNat)
      case atStart => exact ⟨20, T0, rfl, Lib.hid (by omega), HP0, HD0, HO0⟩
      case round =>
        clear HP0 HD0 HO0
        obtain ⟨bs, T, rfl, HB, HP, HD, HO⟩ := hrel
        by_cases hlt : bs < N
        · have hz2 : (bs : Int) < (N : Int) := Int.ofNat_lt.2 hlt
          obtain ⟨b2, hb2⟩ : ∃ b2, b2 = 2 * bs := ⟨_, rfl⟩
          have hw1 : IntKind.i64.wrap (2 * (bs : Int)) = (b2 : Int) := by
            rw [show 2 * (bs : Int) = (b2 : Int) by omega]
            exact IntWalk.i64_in _ (by omega)
          have hw2 : IntKind.i64.wrap ((bs : Int) * 2) = (b2 : Int) := by
            rw [show (bs : Int) * 2 = (b2 : Int) by omega]
            exact IntWalk.i64_in _ (by omega)
          have HB2 := Lib.hid hb2
          clear hb2
          go_wp2_with fail
          go_loopw [7, 8] (fun s7 s8 wy => ∃ (p q : Nat) (D1 T1 : List (List (Nat × EV))), s7 = .int .i64 (p : Int) ∧ s8 = .int .i64 (q : Int) ∧ Hid (p = D1.flatten.length ∧ p ≤ N ∧ q = p + b2) ∧ Hid (PassS keyE L bs D1 T1) ∧ Hid (Dat 9 wy g N cap kb (D1 ++ T1).flatten) ∧ Hid (Only g w wy)) (fun s7 _ _ => N - (intOf s7).toNat)
          case atStart => exact ⟨0, b2, [], T, rfl, rfl, Lib.hid ⟨rfl, Nat.zero_le _, by omega⟩, HP, by simpa using HD, HO⟩
          case round =>
            clear HP HD HO
            obtain ⟨p, q, D1, T1, rfl, rfl, HA1, HP1, HD1, HO1⟩ := hrel
            obtain ⟨hl, hr, hg⟩ := HH.out
            obtain ⟨m, hm⟩ : ∃ m, m = p + bs := ⟨_, rfl⟩
            have hwm : IntKind.i64.wrap ((p : Int) + (bs : Int)) = (m : Int) := by
              have := HA1.out
              rw [show (p : Int) + (bs : Int) = (m : Int) by omega]
              exact IntWalk.i64_in _ (by omega)
            by_cases hqn : q ≤ N
            · have HC1 := Lib.hid (merge_two g N cap kb bs L D1 T1 p m q wr hl HB.out.1 HA1.out.1 hm (by have := HA1.out; have := HB2.out; omega) hqn HP1.out HD1.out hg hN)
              have hz3 : (q : Int) ≤ (N : Int) := Int.ofNat_le.2 hqn
              obtain ⟨q2, hq2⟩ : ∃ q2, q2 = q + b2 := ⟨_, rfl⟩
              have hw3 : IntKind.i64.wrap ((q : Int) + (b2 : Int)) = (q2 : Int) := by
                have := HB2.out
                rw [show (q : Int) + (b2 : Int) = (q2 : Int) by omega]
                exact IntWalk.i64_in _ (by omega)
              have hms : N - q < N - p := by have := HA1.out; have := HB2.out; have := HB.out; omega
              have HQ2 := Lib.hid hq2
              clear hl hr hg hm hq2
              go_wp2_with fail
              refine HC1.out.mono ?_
              rintro e w3 ⟨rfl, ⟨D2, T2, h1, h2, h3⟩, ho3⟩
              have HZ := Lib.hid (And.intro h1 (And.intro h2 (And.intro h3 (HO1.out.trans ho3))))
              clear h1 h2 h3 ho3
              go_wp2_with fail
              exact ⟨⟨q, q2, D2, T2, rfl, rfl, Lib.hid ⟨HZ.out.1, hqn, HQ2.out⟩, Lib.hid HZ.out.2.1, Lib.hid HZ.out.2.2.1, Lib.hid HZ.out.2.2.2⟩, by simp [intOf]; omega⟩
            · have hz3 : ¬ (q : Int) ≤ (N : Int) := fun hh => hqn (Int.ofNat_le.1 hh)
              have HQ := Lib.hid (show N < p + 2 * bs by have := HA1.out; have := HB2.out; omega)
              have hms : N - b2 < N - bs := by have := HB2.out; have := HB.out; omega
              by_cases hmn : m < N
              · have HC1 := Lib.hid (merge_last g N cap kb bs L D1 T1 p m wr hl HB.out.1 HA1.out.1 hm hmn HQ.out HP1.out HD1.out hg hN)
                have hz4 : (m : Int) < (N : Int) := Int.ofNat_lt.2 hmn
                clear hl hr hg hm hqn
                go_wp2_with fail
                refine HC1.out.mono ?_
                rintro e w3 ⟨rfl, ⟨T2, h2, h3⟩, ho3⟩
                have HZ := Lib.hid (And.intro h2 (And.intro h3 (HO1.out.trans ho3)))
                clear h2 h3 ho3
                go_wp2_with fail
                exact ⟨⟨b2, T2, rfl, Lib.hid (by have := HB2.out; have := HB.out; omega), Lib.hid (by rw [HB2.out]; exact HZ.out.1), Lib.hid HZ.out.2.1, Lib.hid HZ.out.2.2⟩, by simp [intOf]; omega⟩
              · have hz4 : ¬ (m : Int) < (N : Int) := fun hh => hmn (Int.ofNat_lt.1 hh)
                have HZ := Lib.hid (HP1.out.endOne HB.out.1 (by have := HP1.out.lens; have := HA1.out; omega))
                clear hl hr hg hm hqn
                go_wp2_with fail
                exact ⟨⟨b2, D1 ++ T1, rfl, Lib.hid (by have := HB2.out; have := HB.out; omega), Lib.hid (by rw [HB2.out]; exact HZ.out), HD1, HO1⟩, by simp [intOf]; omega⟩
        · have hz2 : ¬ (bs : Int) < (N : Int) := fun hh => hlt (Int.ofNat_lt.1 hh)
          have HZ := Lib.hid (show Srt keyE T.flatten from HP.out.done HB.out.1 (by have := HH.out.1; omega))
          clear hlt
          go_wp2_with fail
          go_end0
          exact ⟨rfl, ⟨T.flatten, by simpa using HP.out.perm, HZ.out, HD.out⟩, HO.out⟩
set_option maxHeartbeats 1600000 in
theorem sort_any (g N cap kb : Nat) (L : List (Nat × EV)) (w : World) (h : Dat 9 w g N cap kb L) (hr : Rise L) (hg : ∀ p ∈ L, goodE p.2) (hN : N ≤ 1000000) :
    Calls Tryz.prog 24 #[.slice (some ⟨g, 0, none⟩) N cap, .func (.func 25) #[.agg #[.string ⟨#[44]⟩, .slice (some ⟨kb, 0, none⟩) 1 1, .bool false, .bool false, .bool false]] #[]] w fun e w' => e = .returned (.tuple #[]) ∧ (∃ Z : List (Nat × EV), Z.Perm L ∧ Srt keyE Z ∧ Dat 9 w' g N cap kb Z) ∧ Only g w w' := by
  have HC := Lib.hid (stable_any g N cap kb L w h hr hg hN)
  clear h hr hg
  go_enter Tryz.func24, Tryz.ntmps24
  go_wp2_with fail
  refine HC.out.mono ?_
  rintro e w2 ⟨rfl, hz, ho⟩
  have HZ := Lib.hid (And.intro hz ho)
  clear hz ho
  go_wp2_with fail
  go_end0
  exact ⟨rfl, HZ.out.1, HZ.out.2⟩
end Go.Proofs.YtppnhdcnjbjibaaGreatDoor
