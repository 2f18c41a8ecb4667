/- Stable sorting: symMerge of an ordered range and one element. -/
import Derived.Test.YtppnhdcnjbjibaaGreatDoorGsOne
namespace Go.Proofs.YtppnhdcnjbjibaaGreatDoor
open Go.RowKit Go.Sort

set_option maxRecDepth 100000 in
set_option maxHeartbeats 6400000 in
theorem last_any (g N cap kb : Nat) (P X S : List (Nat × EV)) (y : Nat × EV) (a m b : Nat) (w : World) (h : Dat 9 w g N cap kb (P ++ X ++ [y] ++ S)) (ha : a = P.length) (hm : m = P.length + X.length) (hb : b = P.length + X.length + 1) (hX1 : X.length ≠ 1) (hX : Srt keyE X) (ht : ∀ x ∈ X, x.1 < y.1) (hg : ∀ p ∈ y :: X, goodE p.2) (hN : N ≤ 1000000) :
    Calls Tryz.prog 83 #[.slice (some ⟨g, 0, none⟩) N cap, .int .i64 (a : Int), .int .i64 (m : Int), .int .i64 (b : Int), .func (.func 25) #[.agg #[.string ⟨#[44]⟩, .slice (some ⟨kb, 0, none⟩) 1 1, .bool false, .bool false, .bool false]] #[]] w fun e w' => e = .returned (.tuple #[]) ∧ (∃ Z : List (Nat × EV), Z.Perm (X ++ [y]) ∧ Srt keyE Z ∧ Dat 9 w' g N cap kb (P ++ Z ++ S)) ∧ Only g w w' := by
  have mixed : Tryz.prog.follows .mixedOrders = true := by kernel_rfl
  have hNb : b ≤ N := by
    have := h.len
    simp at this
    omega
  obtain ⟨n, hn⟩ : ∃ n, X.length = n := ⟨_, rfl⟩
  have e1 : IntKind.i64.wrap ((m : Int) - (a : Int)) = (n : Int) := by
    rw [show (m : Int) - (a : Int) = (n : Int) by omega]
    exact IntWalk.i64_in _ (by omega)
  have e2 : ((n : Int) == 1) = false := by rw [beq_eq_false_iff_ne]; omega
  have e3 : IntKind.i64.wrap ((b : Int) - (m : Int)) = 1 := by
    rw [show (b : Int) - (m : Int) = 1 by omega]
    rfl
  have HA := Lib.hid (show a = P.length ∧ m = a + n ∧ b = m + 1 ∧ X.length = n from ⟨ha, by omega, by omega, hn⟩)
  have HD := Lib.hid h
  have HG := Lib.hid hg
  clear h ha hm hb hg hn hX1
  go_enter Tryz.func83, Tryz.ntmps83
  go_wp2_with fail
  go_loopw [14, 15] (fun s10 s11 wr => ∃ (i j c d : Nat), s10 = .int .i64 (i : Int) ∧ s11 = .int .i64 (j : Int) ∧ Hid (i = a + c ∧ j = a + d ∧ c ≤ d ∧ d ≤ X.length) ∧ Hid (∀ h : 0 < c ∧ c - 1 < X.length, ¬ keyE y.2 < keyE (X[c - 1]'h.2).2) ∧ Hid (∀ h : d < X.length, keyE y.2 < keyE X[d].2) ∧ Hid (Dat 9 wr g N cap kb (P ++ X ++ [y] ++ S)) ∧ Hid (Only g w wr)) (fun s10 s11 _ => (intOf s11).toNat - (intOf s10).toNat)
  case atStart => exact ⟨a, m, 0, X.length, rfl, rfl, Lib.hid (by have := HA.out; omega), Lib.hid (fun h => absurd h.1 (by omega)), Lib.hid (fun h => absurd h (Nat.lt_irrefl _)), HD, Lib.hid (Only.refl g w)⟩
  case round =>
    clear HD
    obtain ⟨i, j, c, d, rfl, rfl, HI, HL, HR, HD, HO⟩ := hrel
    by_cases hij : i < j
    · have hijz : (i : Int) < (j : Int) := by omega
      have hjb : j ≤ 1000000 := by have := HI.out; have := HA.out; omega
      have hs : IntKind.i64.wrap ((i : Int) + (j : Int)) = ((i + j : Nat) : Int) := by
        rw [show (i : Int) + (j : Int) = ((i + j : Nat) : Int) by omega]
        exact IntWalk.i64_in _ (by omega)
      go_upto_region 17 with fail
      obtain ⟨q, hq⟩ : ∃ q : Nat, q = (i + j) / 2 := ⟨_, rfl⟩
      have hqi : ((i : Int) + (j : Int)) / 2 = (q : Int) := by omega
      obtain ⟨e, he⟩ : ∃ e, q = a + e := ⟨q - a, by have := HI.out; omega⟩
      have hed : c ≤ e ∧ e < d := by have := HI.out; omega
      have heX : e < X.length := by have := HI.out; omega
      have HE := Lib.hid (And.intro he hed)
      rw [hqi]
      have hDx := HD.out
      rw [show P ++ X ++ [y] ++ S = P ++ X ++ ([y] ++ S) by simp, at_mid P X ([y] ++ S) e heX] at hDx
      have hDy := HD.out
      rw [show P ++ X ++ [y] ++ S = (P ++ X) ++ y :: S by simp] at hDy
      obtain ⟨Xe, hXe⟩ : ∃ u, X[e] = u := ⟨_, rfl⟩
      rw [hXe] at hDx
      have gx : goodE Xe.2 := HG.out Xe (List.mem_cons_of_mem _ (hXe ▸ List.getElem_mem heX))
      have gy : goodE y.2 := HG.out y List.mem_cons_self
      have hqA : q = (P ++ X.take e).length := by have := HA.out; simp; omega
      have hmA : m = (P ++ X).length := by have := HA.out; simp; omega
      obtain ⟨xt, x0⟩ := Xe
      obtain ⟨yt, y0⟩ := y
      have hcy := fun (p : BelowBy wr) => (hDy.below p.h).at hmA
      have hcx := fun (p : BelowBy wr) => (hDx.below p.h).at hqA
      have hmN : m < N := (hcy (BelowBy.refl wr)).1
      have hqN : q < N := (hcx (BelowBy.refl wr)).1
      have c0 := fun (p : BelowBy wr) => (hcy p).2
      have d0 := fun (p : BelowBy wr) => (hcx p).2
      try dsimp only [k0] at c0 d0
      have hcg := fun (p : BelowBy wr) => cmp_any kb _ _ gy gx p.W (HD.out.below p.h).cm
      try dsimp only [k0] at hcg
      have HCG := Lib.hid hcg
      have HXe := Lib.hid hXe
      have jz : (q : Int) < (N : Int) := by omega
      have jz1 : (m : Int) < (N : Int) := by omega
      clear hcy hcx hDy hDx hqA hmA gy gx hcg hXe hq he
      refine wp_region_quiet_below (by assumption) (by kernel_rfl) ?_
      repeat (quiet_step (first | (go_at_call 25; refine calls_below_of _ (HCG.out _))))
      refine wpQuiet_nil ?_
      rintro wz ⟨⟨wy, hbq⟩, hwz⟩
      replace hwz : wz = wy := hwz
      subst hwz
      try dsimp only
      have HGr := Lib.hid (And.intro (HD.out.below hbq) (HO.out.trans (Only.of hbq (Nat.le_refl _))))
      clear c0 d0 HD
      try dsimp only
      clear hbq
      generalize wz = w2 at *
      by_cases hlt : cvV y0 x0 < 0
      · have hhigh := Lib.hid (show ∀ h : e < X.length, keyE y0 < keyE (X[e]'h).2 from fun h => by
          rw [HXe.out]
          exact (cv_neg _ _).1 hlt)
        have HI2 := Lib.hid (show i = a + c ∧ q = a + e ∧ c ≤ e ∧ e ≤ X.length by have := HE.out; have := HI.out; omega)
        have hms : q - i < j - i := by have := HE.out; have := HI.out; omega
        have hbt : decide (cvV y0 x0 < 0) = true := decide_eq_true hlt
        rw [hbt]
        go_wp2_with fail
        exact ⟨⟨i, q, c, e, rfl, rfl, HI2, HL, hhigh, Lib.hid HGr.out.1, Lib.hid HGr.out.2⟩, by simp [intOf]; omega⟩
      · have hlow := Lib.hid (show ∀ h : 0 < e + 1 ∧ e + 1 - 1 < X.length, ¬ keyE y0 < keyE (X[e + 1 - 1]'h.2).2 from fun h => by
          show ¬ _ < keyE (X[e]'heX).2
          rw [HXe.out]
          exact fun h2 => hlt ((cv_neg _ _).2 h2))
        have HI2 := Lib.hid (show q + 1 = a + (e + 1) ∧ j = a + d ∧ e + 1 ≤ d ∧ d ≤ X.length by have := HE.out; have := HI.out; omega)
        have hms : j - (q + 1) < j - i := by have := HE.out; have := HI.out; omega
        have hbt : decide (cvV y0 x0 < 0) = false := decide_eq_false hlt
        rw [hbt]
        go_wp2_with fail
        exact ⟨⟨q + 1, j, e + 1, d, by simp, rfl, HI2, hlow, HR, Lib.hid HGr.out.1, Lib.hid HGr.out.2⟩, by simp [intOf]; omega⟩
    · have hcd : c = d := by have := HI.out; omega
      subst hcd
      have hcX : c ≤ X.length := HI.out.2.2.2
      have hpf := put_last (key := keyE) (x := y) hX hcX ht (fun a => HL.out ⟨a, by omega⟩) HR.out
      have HZ := Lib.hid hpf
      have hnlt : ¬ (i : Int) < (j : Int) := by omega
      clear hpf
      go_wp2_with fail
      go_loopw [17] (fun s17 wx => ∃ (k f : Nat), s17 = .int .i64 (k : Int) ∧ Hid (k = a + f ∧ c ≤ f ∧ f ≤ X.length) ∧ Hid (Dat 9 wx g N cap kb (P ++ (X.take f ++ y :: X.drop f) ++ S)) ∧ Hid (Only g w wx)) (fun s17 _ => (intOf s17).toNat)
      case atStart => exact ⟨m, X.length, rfl, Lib.hid (by have := HA.out; omega), Lib.hid (by rw [List.take_length, List.drop_length]; simpa using HD.out), HO⟩
      case round =>
        obtain ⟨k, f, rfl, HK, HDx, HOx⟩ := hrel
        by_cases hfc : c < f
        · obtain ⟨f', rfl⟩ : ∃ f', f = f' + 1 := ⟨f - 1, by omega⟩
          obtain ⟨A, ⟨ut, u0⟩, B, h1, h2, hA⟩ := bub_step P X S y f' (by have := HK.out; omega)
          obtain ⟨yt, y0⟩ := y
          obtain ⟨kp, rfl⟩ : ∃ kp, k = kp + 1 := ⟨k - 1, by have := HK.out; omega⟩
          have hkA : kp = A.length := by have := HK.out; have := HA.out; omega
          have hD1 := HDx.out
          rw [h2] at hD1
          have HSw := Lib.hid (hD1.swap2 hkA (j := kp + 1) (by simp; omega))
          rw [← h1] at HSw
          obtain ⟨l1, d0⟩ := hD1.at hkA
          have hD2 := (show Dat 9 wr g N cap kb ((A ++ [(ut, u0)]) ++ (yt, y0) :: B) by simpa using hD1)
          obtain ⟨l2, z0⟩ := hD2.at (i := kp + 1) (by simp; omega)
          have hz := hD1.fz
          have HO2 := Lib.hid ((HOx.out.trans (putE_only _ g (kp + 1) u0)).trans (putE_only _ g kp y0))
          unfold putE at HSw HO2
          try dsimp only [k0] at d0 z0 HSw HO2
          have hki : (i : Int) < (kp : Int) + 1 := by have := HK.out; have := HI.out; omega
          have hwp : IntKind.i64.wrap (kp : Int) = (kp : Int) := IntWalk.i64_in _ (by omega)
          have jz : (kp : Int) + 1 < (N : Int) := by omega
          have jz1 : (kp : Int) < (N : Int) := by omega
          have p0 : (0 : Int) ≤ (kp : Int) + 1 := by omega
          have e0 : ((kp : Int) + 1).toNat = kp + 1 := by omega
          have HK2 := Lib.hid (show kp = a + f' ∧ c ≤ f' ∧ f' ≤ X.length by have := HK.out; omega)
          clear h1 h2 hA hkA hD1 hD2
          go_wp2_with fail
          go_region_law (fail)
          all_goals
            go_wp2_with fail
            exact ⟨⟨kp, f', rfl, HK2, Lib.hid HSw.out.drew, Lib.hid (HO2.out.drewN 1)⟩, by simp [intOf]⟩
        · have hfe : f = c := by have := HK.out; omega
          subst hfe
          have hki : ¬ (i : Int) < (k : Int) := by have := HK.out; have := HI.out; omega
          have HF := Lib.hid (And.intro HDx.out HOx.out)
          go_wp2_with fail
          refine bodyPost_ret (results_none rfl _ _ _) rfl ?_
          exact ⟨rfl, ⟨_, HZ.out.1, HZ.out.2, by simpa using HF.out.1⟩, HF.out.2⟩
end Go.Proofs.YtppnhdcnjbjibaaGreatDoor
