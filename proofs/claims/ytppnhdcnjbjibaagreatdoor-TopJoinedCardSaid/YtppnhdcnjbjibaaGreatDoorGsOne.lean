/- Stable sorting: symMerge of one element and an ordered range. -/
import Derived.Test.YtppnhdcnjbjibaaGreatDoorGsIns
namespace Go.Proofs.YtppnhdcnjbjibaaGreatDoor
open Go.RowKit Go.Sort

/-- an element of a range in its place -/
theorem at_mid (P Y S : List (Nat × EV)) (e : Nat) (h : e < Y.length) : P ++ Y ++ S = (P ++ Y.take e) ++ Y[e] :: (Y.drop (e + 1) ++ S) := by
  conv => lhs; rw [← List.take_append_drop e Y, List.drop_eq_getElem_cons h]
  simp only [List.append_assoc, List.cons_append]
/-- the first element has come to place f -/
theorem bub_step (P Y S : List (Nat × EV)) (x : Nat × EV) (f : Nat) (h : f < Y.length) : ∃ A u B,
    P ++ (Y.take f ++ x :: Y.drop f) ++ S = A ++ x :: ([] ++ u :: B) ∧ P ++ (Y.take (f + 1) ++ x :: Y.drop (f + 1)) ++ S = A ++ u :: ([] ++ x :: B) ∧ A.length = P.length + f := by
  refine ⟨P ++ Y.take f, Y[f], Y.drop (f + 1) ++ S, ?_, ?_, by simp; omega⟩
  · rw [List.drop_eq_getElem_cons h]
    simp only [List.append_assoc, List.cons_append, List.nil_append]
  · rw [List.take_succ_eq_append_getElem h]
    simp only [List.append_assoc, List.cons_append, List.nil_append]
set_option maxRecDepth 100000 in
set_option maxHeartbeats 6400000 in
theorem first_any (g N cap kb : Nat) (P Y S : List (Nat × EV)) (x : Nat × EV) (a m b : Nat) (w : World) (h : Dat 9 w g N cap kb (P ++ [x] ++ Y ++ S)) (ha : a = P.length) (hm : m = P.length + 1) (hb : b = P.length + 1 + Y.length) (hY : Srt keyE Y) (ht : ∀ y ∈ Y, x.1 < y.1) (hg : ∀ p ∈ x :: Y, goodE p.2) (hN : N ≤ 1000000) :
    Calls Tryz.prog 83 #[.slice (some ⟨g, 0, none⟩) N cap, .int .i64 (a : Int), .int .i64 (m : Int), .int .i64 (b : Int), .func (.func 25) #[.agg #[.string ⟨#[44]⟩, .slice (some ⟨kb, 0, none⟩) 1 1, .bool false, .bool false, .bool false]] #[]] w fun e w' => e = .returned (.tuple #[]) ∧ (∃ Z : List (Nat × EV), Z.Perm ([x] ++ Y) ∧ Srt keyE Z ∧ Dat 9 w' g N cap kb (P ++ Z ++ S)) ∧ Only g w w' := by
  have mixed : Tryz.prog.follows .mixedOrders = true := by kernel_rfl
  have hNb : b ≤ N := by
    have := h.len
    simp at this
    omega
  have e1 : IntKind.i64.wrap ((m : Int) - (a : Int)) = 1 := by
    rw [show (m : Int) - (a : Int) = 1 by omega]
    rfl
  have HA := Lib.hid (And.intro ha (And.intro hm hb))
  have HD := Lib.hid h
  have HG := Lib.hid hg
  clear h ha hm hb hg
  go_enter Tryz.func83, Tryz.ntmps83
  go_wp2_with fail
  go_loopw [10, 11] (fun s10 s11 wr => ∃ (i j c d : Nat), s10 = .int .i64 (i : Int) ∧ s11 = .int .i64 (j : Int) ∧ Hid (i = m + c ∧ j = m + d ∧ c ≤ d ∧ d ≤ Y.length) ∧ Hid (∀ h : 0 < c ∧ c - 1 < Y.length, keyE (Y[c - 1]'h.2).2 < keyE x.2) ∧ Hid (∀ h : d < Y.length, ¬ keyE Y[d].2 < keyE x.2) ∧ Hid (Dat 9 wr g N cap kb (P ++ [x] ++ Y ++ S)) ∧ Hid (Only g w wr)) (fun s10 s11 _ => (intOf s11).toNat - (intOf s10).toNat)
  case atStart => exact ⟨m, b, 0, Y.length, rfl, rfl, Lib.hid (by have := HA.out; omega), Lib.hid (fun h => absurd h.1 (by omega)), Lib.hid (fun h => absurd h (Nat.lt_irrefl _)), HD, Lib.hid (Only.refl g w)⟩
  case round =>
    clear HD
    obtain ⟨i, j, c, d, rfl, rfl, HI, HL, HR, HD, HO⟩ := hrel
    by_cases hij : i < j
    · have hijz : (i : Int) < (j : Int) := by omega
      have hjb : j ≤ 1000000 := by have := HI.out; have := HA.out; omega
      have hs : IntKind.i64.wrap ((i : Int) + (j : Int)) = ((i + j : Nat) : Int) := by
        rw [show (i : Int) + (j : Int) = ((i + j : Nat) : Int) by omega]
        exact IntWalk.i64_in _ (by omega)
      go_upto_region 5 with fail
      obtain ⟨q, hq⟩ : ∃ q : Nat, q = (i + j) / 2 := ⟨_, rfl⟩
      have hqi : ((i : Int) + (j : Int)) / 2 = (q : Int) := by omega
      obtain ⟨e, he⟩ : ∃ e, q = m + e := ⟨q - m, by have := HI.out; omega⟩
      have hed : c ≤ e ∧ e < d := by have := HI.out; omega
      have heY : e < Y.length := by have := HI.out; omega
      have HE := Lib.hid (And.intro he hed)
      rw [hqi]
      have hDy := HD.out
      rw [at_mid (P ++ [x]) Y S e heY] at hDy
      have hDx := HD.out
      rw [show P ++ [x] ++ Y ++ S = P ++ x :: (Y ++ S) by simp] at hDx
      obtain ⟨Ye, hYe⟩ : ∃ u, Y[e] = u := ⟨_, rfl⟩
      rw [hYe] at hDy
      have gy : goodE Ye.2 := HG.out Ye (List.mem_cons_of_mem _ (hYe ▸ List.getElem_mem heY))
      have gx : goodE x.2 := HG.out x List.mem_cons_self
      have hqA : q = (P ++ [x] ++ Y.take e).length := by have := HA.out; simp; omega
      have haA : a = P.length := HA.out.1
      obtain ⟨yt, y0⟩ := Ye
      obtain ⟨xt, x0⟩ := x
      have hcy := fun (p : BelowBy wr) => (hDy.below p.h).at hqA
      have hcx := fun (p : BelowBy wr) => (hDx.below p.h).at haA
      have hqN : q < N := (hcy (BelowBy.refl wr)).1
      have haN : a < N := (hcx (BelowBy.refl wr)).1
      have c0 := fun (p : BelowBy wr) => (hcy p).2
      have d0 := fun (p : BelowBy wr) => (hcx p).2
      try dsimp only [k0] at c0 d0
      have hcg := fun (p : BelowBy wr) => cmp_any kb _ _ gy gx p.W (HD.out.below p.h).cm
      try dsimp only [k0] at hcg
      have HCG := Lib.hid hcg
      have HYe := Lib.hid hYe
      have jz : (q : Int) < (N : Int) := by omega
      have jz1 : (a : Int) < (N : Int) := by omega
      clear hcy hcx hDy hDx hqA haA gy gx hcg hYe hq he
      refine wp_region_quiet_below (by assumption) (by kernel_rfl) ?_
      repeat (quiet_step (first | (go_at_call 25; refine calls_below_of _ (HCG.out _))))
      refine wpQuiet_nil ?_
      rintro wz ⟨⟨wy, hbq⟩, hwz⟩
      replace hwz : wz = wy := hwz
      subst hwz
      try dsimp only
      have HGr := Lib.hid (And.intro (HD.out.below hbq) (HO.out.trans (Only.of hbq (Nat.le_refl _))))
      clear c0 d0 HD
      try dsimp only
      clear hbq
      generalize wz = w2 at *
      by_cases hlt : cvV y0 x0 < 0
      · have hbt : decide (cvV y0 x0 < 0) = true := decide_eq_true hlt
        rw [hbt]
        have hlow := Lib.hid (show ∀ h : 0 < e + 1 ∧ e + 1 - 1 < Y.length, keyE (Y[e + 1 - 1]'h.2).2 < keyE x0 from fun h => by
          show keyE (Y[e]'heY).2 < _
          rw [HYe.out]
          exact (cv_neg _ _).1 hlt)
        have HI2 := Lib.hid (show q + 1 = m + (e + 1) ∧ j = m + d ∧ e + 1 ≤ d ∧ d ≤ Y.length by have := HE.out; have := HI.out; omega)
        have hms : j - (q + 1) < j - i := by have := HE.out; have := HI.out; omega
        go_wp2_with fail
        exact ⟨⟨q + 1, j, e + 1, d, by simp, rfl, HI2, hlow, HR, Lib.hid HGr.out.1, Lib.hid HGr.out.2⟩, by simp [intOf]; omega⟩
      · have hbt : decide (cvV y0 x0 < 0) = false := decide_eq_false hlt
        rw [hbt]
        have hhigh := Lib.hid (show ∀ h : e < Y.length, ¬ keyE (Y[e]'h).2 < keyE x0 from fun h => by
          rw [HYe.out]
          exact fun h2 => hlt ((cv_neg _ _).2 h2))
        have HI2 := Lib.hid (show i = m + c ∧ q = m + e ∧ c ≤ e ∧ e ≤ Y.length by have := HE.out; have := HI.out; omega)
        have hms : q - i < j - i := by have := HE.out; have := HI.out; omega
        go_wp2_with fail
        exact ⟨⟨i, q, c, e, rfl, rfl, HI2, HL, hhigh, Lib.hid HGr.out.1, Lib.hid HGr.out.2⟩, by simp [intOf]; omega⟩
    · have hcd : c = d := by have := HI.out; omega
      subst hcd
      have hcY : c ≤ Y.length := HI.out.2.2.2
      have hpf := put_first (key := keyE) (x := x) hY hcY ht (fun a => HL.out ⟨a, by omega⟩) HR.out
      have HZ := Lib.hid hpf
      have hw1 : IntKind.i64.wrap ((i : Int) - 1) = ((i - 1 : Nat) : Int) := by
        have := HI.out; have := HA.out
        rw [show (i : Int) - 1 = ((i - 1 : Nat) : Int) by omega]
        exact IntWalk.i64_in _ (by omega)
      have hnlt : ¬ (i : Int) < (j : Int) := by omega
      clear hpf
      go_wp2_with fail
      go_loopw [13] (fun s13 wx => ∃ (k f : Nat), s13 = .int .i64 (k : Int) ∧ Hid (k = a + f ∧ f ≤ c) ∧ Hid (Dat 9 wx g N cap kb (P ++ (Y.take f ++ x :: Y.drop f) ++ S)) ∧ Hid (Only g w wx)) (fun s13 _ => i - (intOf s13).toNat)
      case atStart => exact ⟨a, 0, rfl, Lib.hid ⟨by omega, by omega⟩, Lib.hid (by simpa using HD.out), HO⟩
      case round =>
        obtain ⟨k, f, rfl, HK, HDx, HOx⟩ := hrel
        by_cases hfc : f < c
        · obtain ⟨A, ⟨ut, u0⟩, B, h1, h2, hA⟩ := bub_step P Y S x f (by omega)
          obtain ⟨xt, x0⟩ := x
          have hkA : k = A.length := by have := HK.out; have := HA.out; omega
          have hD1 := HDx.out
          rw [h1] at hD1
          have HSw := Lib.hid (hD1.swap hkA (j := k + 1) (by simp; omega))
          rw [← h2] at HSw
          obtain ⟨l1, y0⟩ := hD1.at hkA
          have hD2 := (show Dat 9 wr g N cap kb ((A ++ [(xt, x0)]) ++ (ut, u0) :: B) by simpa using hD1)
          obtain ⟨l2, d0⟩ := hD2.at (i := k + 1) (by simp; omega)
          have hz := hD1.fz
          have HO2 := Lib.hid ((HOx.out.trans (putE_only _ g k u0)).trans (putE_only _ g (k + 1) x0))
          unfold putE at HSw HO2
          try dsimp only [k0] at d0 y0 HSw HO2
          have hki : (k : Int) < ((i - 1 : Nat) : Int) := by have := HK.out; have := HI.out; have := HA.out; omega
          have hwk : IntKind.i64.wrap ((k : Int) + 1) = (k : Int) + 1 := IntWalk.i64_in _ (by omega)
          have jz : (k : Int) + 1 < (N : Int) := by omega
          have jz1 : (k : Int) < (N : Int) := by omega
          have p0 : (0 : Int) ≤ (k : Int) + 1 := by omega
          have e0 : ((k : Int) + 1).toNat = k + 1 := by omega
          have HK2 := Lib.hid (show k + 1 = a + (f + 1) ∧ f + 1 ≤ c by have := HK.out; omega)
          have hms : i - (k + 1) < i - k := by have := HK.out; have := HI.out; have := HA.out; omega
          clear h1 h2 hA hkA hD1 hD2
          go_wp2_with fail
          go_region_law (fail)
          all_goals
            go_wp2_with fail
            exact ⟨⟨k + 1, f + 1, by simp, HK2, Lib.hid HSw.out.drew, Lib.hid (HO2.out.drewN 1)⟩, by simp [intOf]; omega⟩
        · have hfe : f = c := by have := HK.out; omega
          subst hfe
          have hki : ¬ (k : Int) < ((i - 1 : Nat) : Int) := by have := HK.out; have := HI.out; have := HA.out; omega
          have HF := Lib.hid (And.intro HDx.out HOx.out)
          go_wp2_with fail
          refine bodyPost_ret (results_none rfl _ _ _) rfl ?_
          exact ⟨rfl, ⟨_, HZ.out.1, HZ.out.2, by simpa using HF.out.1⟩, HF.out.2⟩
end Go.Proofs.YtppnhdcnjbjibaaGreatDoor
