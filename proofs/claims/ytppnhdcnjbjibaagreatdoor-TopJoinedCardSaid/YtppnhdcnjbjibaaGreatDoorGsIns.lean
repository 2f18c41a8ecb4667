/- Stable sorting: the insertion sort of a range. -/
import Derived.Test.YtppnhdcnjbjibaaGreatDoorGsRot
import Derived.Test.YtppnhdcnjbjibaaGreatDoorTjKey
import Derived.Shelf.SlSortCmp.QuietGrown
namespace Go.Proofs.YtppnhdcnjbjibaaGreatDoor
open Go.RowKit Go.Sort

theorem Dat.swap2 {T : TypeId} {w : World} {g n cap kb : Nat} {A M B : List (Nat × EV)} {u v : Nat × EV} (h : Dat T w g n cap kb (A ++ u :: (M ++ v :: B))) {i j : Nat} (hi : i = A.length) (hj : j = A.length + 1 + M.length) :
    Dat T (putE (putE w g j u.2) g i v.2) g n cap kb (A ++ v :: (M ++ u :: B)) := by
  have h1 := (h.put j u.1 u.2).put i v.1 v.2
  rw [List.set_comm _ _ (by omega : j ≠ i)] at h1
  rwa [swapped hi hj] at h1
/-- the element that is inserted has come down to place c -/
def insL (P Z R : List (Nat × EV)) (x : Nat × EV) (c : Nat) : List (Nat × EV) := P ++ Z.take c ++ (x :: (Z.drop c ++ R))
theorem insL_step (P Z R : List (Nat × EV)) (x : Nat × EV) (c : Nat) (hc : c + 1 ≤ Z.length) : ∃ A u B,
    insL P Z R x (c + 1) = A ++ u :: ([] ++ x :: B) ∧ insL P Z R x c = A ++ x :: ([] ++ u :: B) ∧ A.length = P.length + c ∧ u = Z[c] := by
  refine ⟨P ++ Z.take c, Z[c], Z.drop (c + 1) ++ R, ?_, ?_, by simp; omega, rfl⟩
  · unfold insL
    rw [List.take_succ_eq_append_getElem (by omega : c < Z.length)]
    simp only [List.append_assoc, List.cons_append, List.nil_append]
  · unfold insL
    rw [List.drop_eq_getElem_cons (by omega : c < Z.length)]
    simp only [List.append_assoc, List.cons_append, List.nil_append]
set_option maxRecDepth 100000 in
set_option maxHeartbeats 6400000 in
theorem ins_any (g N cap kb : Nat) (P M S : List (Nat × EV)) (a b : Nat) (w : World) (h : Dat 9 w g N cap kb (P ++ M ++ S)) (ha : a = P.length) (hb : b = P.length + M.length) (hM : 0 < M.length) (hr : Rise M) (hg : ∀ p ∈ M, goodE p.2) (hN : N ≤ 1000000) :
    Calls Tryz.prog 82 #[.slice (some ⟨g, 0, none⟩) N cap, .int .i64 (a : Int), .int .i64 (b : Int), .func (.func 25) #[.agg #[.string ⟨#[44]⟩, .slice (some ⟨kb, 0, none⟩) 1 1, .bool false, .bool false, .bool false]] #[]] w fun e w' => e = .returned (.tuple #[]) ∧ (∃ Z : List (Nat × EV), Z.Perm M ∧ Srt keyE Z ∧ Dat 9 w' g N cap kb (P ++ Z ++ S)) ∧ Only g w w' := by
  have mixed : Tryz.prog.follows .mixedOrders = true := by kernel_rfl
  have hNb : b ≤ 1000000 := by
    have := h.len
    simp at this
    omega
  have HD := Lib.hid h
  have HA := Lib.hid ha
  have HB := Lib.hid hb
  have HR := Lib.hid hr
  have HG := Lib.hid hg
  have e1 : IntKind.i64.wrap ((a : Int) + 1) = (a : Int) + 1 := IntWalk.i64_in _ (by omega)
  have HS0 := Lib.hid (show 0 < M.length ∧ Dat 9 w g N cap kb (P ++ M.take 1 ++ (M.drop 1 ++ S)) from ⟨hM, by
    have e : M.take 1 ++ (M.drop 1 ++ S) = M ++ S := by rw [← List.append_assoc, List.take_append_drop]
    rw [List.append_assoc, e, ← List.append_assoc]
    exact h⟩)
  clear h ha hb hr hg hM HD
  go_enter Tryz.func82, Tryz.ntmps82
  go_wp2_with fail
  go_loopw [8] (fun s8 wr => ∃ (i k : Nat) (Z : List (Nat × EV)), s8 = .int .i64 (i : Int) ∧ Hid (i = a + k) ∧ Hid (0 < k ∧ k ≤ M.length) ∧ Hid (Z.Perm (M.take k)) ∧ Hid (Srt keyE Z) ∧ Hid (Dat 9 wr g N cap kb (P ++ Z ++ (M.drop k ++ S))) ∧ Hid (Only g w wr)) (fun s8 _ => b - (intOf s8).toNat)
  case atStart => exact ⟨a + 1, 1, M.take 1, by simp, Lib.hid rfl, Lib.hid ⟨by decide, HS0.out.1⟩, Lib.hid (List.Perm.refl _), Lib.hid (by
    obtain ⟨hM, _⟩ := HS0.out
    match M, hM with
    | x :: r, _ => exact List.pairwise_singleton _ _), Lib.hid HS0.out.2, Lib.hid (Only.refl g w)⟩
  case round =>
    clear HS0
    obtain ⟨i, k, Z, rfl, HI, HK, HP, HS, HD, HO⟩ := hrel
    have hZl : Z.length = k := by
      have := HP.out.length_eq
      have := HK.out.2
      simp at *
      omega
    by_cases hlt : k < M.length
    · have hib : (i : Int) < (b : Int) := by have := HI.out; have := HA.out; have := HB.out; omega
      obtain ⟨x, hx⟩ : ∃ x, M[k] = x := ⟨_, rfl⟩
      have HX := Lib.hid hx
      have hdr : M.drop k = x :: M.drop (k + 1) := by rw [List.drop_eq_getElem_cons hlt, hx]
      have hD1 := HD.out
      rw [hdr] at hD1
      have HD1 := Lib.hid (show Dat 9 wr g N cap kb (insL P Z (M.drop (k + 1) ++ S) x Z.length) by
        unfold insL
        rw [List.take_length, List.drop_length]
        simpa using hD1)
      have hin : i ≤ 1000000 := by have := HI.out; have := HA.out; have := HB.out; omega
      clear hx hdr hD1 HD
      generalize hwq : wr = wq at *
      clear hwq
      go_wp2_with fail
      go_loopw [9] (fun s9 wx => ∃ (j c : Nat), s9 = .int .i64 (j : Int) ∧ Hid (j = a + c) ∧ Hid (c ≤ Z.length) ∧ Hid (∀ h : c < Z.length, keyE x.2 < keyE Z[c].2) ∧ Hid (Dat 9 wx g N cap kb (insL P Z (M.drop (k + 1) ++ S) x c)) ∧ Hid (Only g wq wx)) (fun s9 _ => (intOf s9).toNat)
      case atStart => exact ⟨i, Z.length, rfl, Lib.hid (by have := HI.out; omega), Lib.hid (Nat.le_refl _), Lib.hid (fun h => absurd h (Nat.lt_irrefl _)), HD1, Lib.hid (Only.refl g wq)⟩
      case round =>
        obtain ⟨j, c, rfl, HJ, HC, HL, HDx, HOx⟩ := hrel
        go_upto_region 4 with fail
        go_cut [34] (fun s34 wy => ∃ bb : Bool, s34 = .bool bb ∧ Hid (bb = true ↔ ∃ h : c - 1 < Z.length ∧ 0 < c, keyE x.2 < keyE (Z[c - 1]'h.1).2) ∧ Hid (Dat 9 wy g N cap kb (insL P Z (M.drop (k + 1) ++ S) x c)) ∧ Hid (Only g wq wy))
        case first =>
          by_cases hc0 : c = 0
          · have hja : ¬ (a : Int) < (j : Int) := by have := HJ.out; omega
            have hjb : decide ((j : Int) > (a : Int)) = false := decide_eq_false hja
            have HDd := Lib.hid HDx.out.drew
            have HOd := Lib.hid (HOx.out.drewN 1)
            go_big_region_o
            all_goals
              go_wp2_with fail
              go_meet
              exact ⟨false, rfl, Lib.hid ⟨fun h => (by cases h), fun ⟨h, _⟩ => absurd h.2 (by omega)⟩, HDd, HOd⟩
          · obtain ⟨c', rfl⟩ : ∃ c', c = c' + 1 := ⟨c - 1, by omega⟩
            have hcz := HC.out
            obtain ⟨A, ⟨ut, u0⟩, B, h1, _, hA, hu⟩ := insL_step P Z (M.drop (k + 1) ++ S) x c' hcz
            obtain ⟨xt, x0⟩ := x
            obtain ⟨jp, rfl⟩ : ∃ jp, j = jp + 1 := ⟨j - 1, by have := HJ.out; omega⟩
            have hjp : jp = A.length := by have := HJ.out; have := HA.out; omega
            have hD2 := HDx.out
            rw [h1] at hD2
            have hcu := fun (p : BelowBy wr) => (hD2.below p.h).at hjp
            have hcx := fun (p : BelowBy wr) => (show Dat 9 p.W g N cap kb ((A ++ [(ut, u0)]) ++ (xt, x0) :: B) by simpa using hD2.below p.h).at (i := jp + 1) (by simp; omega)
            have hjN : jp + 1 < N := (hcx (BelowBy.refl wr)).1
            have c0 := fun (p : BelowBy wr) => (hcu p).2
            have d0 := fun (p : BelowBy wr) => (hcx p).2
            try dsimp only [k0] at c0 d0
            have gx : goodE x0 := HG.out (xt, x0) (HX.out ▸ List.getElem_mem hlt)
            have gu : goodE u0 := HG.out (ut, u0) (by
              have hm : (ut, u0) ∈ Z := hu ▸ List.getElem_mem (by omega)
              exact List.mem_of_mem_take ((HP.out.mem_iff).1 hm))
            have hcg := fun (p : BelowBy wr) => cmp_any kb _ _ gx gu p.W (HDx.out.below p.h).cm
            try dsimp only [k0] at hcg
            have HCG := Lib.hid hcg
            have hja : (a : Int) < (jp : Int) + 1 := by have := HJ.out; omega
            have hwp : IntKind.i64.wrap (jp : Int) = (jp : Int) := IntWalk.i64_in _ (by omega)
            have jz : (jp : Int) + 1 < (N : Int) := by omega
            have jz1 : (jp : Int) < (N : Int) := by omega
            have p0 : (0 : Int) ≤ (jp : Int) + 1 := by omega
            have e0 : ((jp : Int) + 1).toNat = jp + 1 := by omega
            have HHu := Lib.hid (show ∃ h : c' < Z.length, (ut, u0) = Z[c']'h from ⟨by omega, hu⟩)
            clear hcu hcx hD2 h1 hA hu hjp hcz gx gu hcg HD1
            refine wp_region_quiet_below (by assumption) (by kernel_rfl) ?_
            repeat (quiet_step (first | (go_at_call 25; refine calls_below_of _ (HCG.out _))))
            refine wpQuiet_nil ?_
            rintro wz ⟨⟨wy, hbq⟩, hwz⟩
            replace hwz : wz = wy := hwz
            subst hwz
            try dsimp only
            have HGr := Lib.hid (And.intro (HDx.out.below hbq) (HOx.out.trans (Only.of hbq (Nat.le_refl _))))
            clear c0 d0
            go_wp2_with fail
            go_meet
            refine ⟨decide (cvV x0 u0 < 0), rfl, Lib.hid ⟨fun h => ?_, fun ⟨h, h2⟩ => ?_⟩, Lib.hid HGr.out.1, Lib.hid HGr.out.2⟩
            · obtain ⟨hz, he⟩ := HHu.out
              have h := of_decide_eq_true h
              refine ⟨⟨hz, by omega⟩, ?_⟩
              show keyE _ < keyE (Z[c']'hz).2
              rw [← he]
              exact (cv_neg _ _).1 h
            · obtain ⟨hz, he⟩ := HHu.out
              have h3 : keyE x0 < keyE (Z[c']'hz).2 := h2
              rw [← he] at h3
              exact decide_eq_true ((cv_neg _ _).2 h3)
        case rest =>
        obtain ⟨bb, rfl, HBB, HDy, HOy⟩ := hcut
        cases bb with
        | false =>
          have hc := HC.out
          have htg : ∀ y ∈ Z, y.1 < x.1 := fun y hy => by
            have hm := (HP.out.mem_iff).1 hy
            have hr : Rise (M.take k ++ M.drop k) := by rw [List.take_append_drop]; exact HR.out
            refine (Rise.cut hr).2.2 y hm x ?_
            rw [List.drop_eq_getElem_cons hlt, HX.out]
            exact List.mem_cons_self
          have hpl := put_last (key := keyE) (x := x) HS.out hc htg (fun a h => by have := HBB.out.2 ⟨⟨by omega, a⟩, h⟩; cases this) HL.out
          have hpm : (Z.take c ++ x :: Z.drop c).Perm (M.take (k + 1)) := by
            refine hpl.1.trans ?_
            rw [List.take_succ_eq_append_getElem hlt, HX.out]
            exact HP.out.append_right _
          have hdt : Dat 9 wc g N cap kb (P ++ (Z.take c ++ x :: Z.drop c) ++ (M.drop (k + 1) ++ S)) := by
            have := HDy.out
            unfold insL at this
            simpa using this
          have HZ := Lib.hid (And.intro hpm (And.intro hpl.2 (And.intro hdt (HO.out.trans HOy.out))))
          have hi2 : IntKind.i64.wrap ((i : Int) + 1) = (i : Int) + 1 := IntWalk.i64_in _ (by omega)
          have hik := HI.out
          clear hpl hpm hdt htg hc
          go_wp2_with fail
          exact ⟨⟨i + 1, k + 1, Z.take c ++ x :: Z.drop c, by simp; omega, Lib.hid (by omega), Lib.hid ⟨by omega, by omega⟩, Lib.hid HZ.out.1, Lib.hid HZ.out.2.1, Lib.hid HZ.out.2.2.1, Lib.hid HZ.out.2.2.2⟩, by simp [intOf]; omega⟩
        | true =>
          obtain ⟨⟨hcz, hc0⟩, hlx⟩ := HBB.out.1 rfl
          obtain ⟨c', rfl⟩ : ∃ c', c = c' + 1 := ⟨c - 1, by omega⟩
          obtain ⟨A, ⟨ut, u0⟩, B, h1, h2, hA, hu⟩ := insL_step P Z (M.drop (k + 1) ++ S) x c' HC.out
          have HLx := Lib.hid (show ∀ h : c' < Z.length, keyE x.2 < keyE Z[c'].2 from fun _ => hlx)
          obtain ⟨xt, x0⟩ := x
          obtain ⟨jp, rfl⟩ : ∃ jp, j = jp + 1 := ⟨j - 1, by have := HJ.out; omega⟩
          have hjp : jp = A.length := by have := HJ.out; have := HA.out; omega
          have hD1 := HDy.out
          rw [h1] at hD1
          have HSw := Lib.hid (hD1.swap2 hjp (j := jp + 1) (by simp; omega))
          rw [← h2] at HSw
          obtain ⟨l1, d0⟩ := hD1.at hjp
          have hD2 := (show Dat 9 wc g N cap kb ((A ++ [(ut, u0)]) ++ (xt, x0) :: B) by simpa using hD1)
          obtain ⟨l2, y0⟩ := hD2.at (i := jp + 1) (by simp; omega)
          have hz := hD1.fz
          have HO2 := Lib.hid ((HOy.out.trans (putE_only _ g (jp + 1) u0)).trans (putE_only _ g jp x0))
          unfold putE at HSw HO2
          try dsimp only [k0] at d0 y0 HSw HO2
          have hwp : IntKind.i64.wrap (jp : Int) = (jp : Int) := IntWalk.i64_in _ (by omega)
          have jz : (jp : Int) + 1 < (N : Int) := by omega
          have jz1 : (jp : Int) < (N : Int) := by omega
          have p0 : (0 : Int) ≤ (jp : Int) + 1 := by omega
          have e0 : ((jp : Int) + 1).toNat = jp + 1 := by omega
          have HJ2 := Lib.hid (show jp = a + c' by have := HJ.out; omega)
          have HC2 := Lib.hid (show c' ≤ Z.length by have := HC.out; omega)
          clear h1 h2 hA hu hjp hD1 hD2 hlx HD1
          go_upto_region 6 with fail
          go_region_law (fail)
          all_goals
            go_wp2_with fail
            exact ⟨⟨jp, c', rfl, HJ2, HC2, HLx, Lib.hid HSw.out.drew, Lib.hid (HO2.out.drewN 1)⟩, by simp [intOf]⟩
    · have hke : k = M.length := by have := HK.out.2; omega
      have hib : ¬ (i : Int) < (b : Int) := by have := HI.out; have := HA.out; have := HB.out; omega
      have hp := HP.out
      have hd := HD.out
      rw [hke, List.take_length] at hp
      rw [hke, List.drop_length, List.nil_append] at hd
      have HZ := Lib.hid (And.intro hp hd)
      clear hp hd hke
      go_wp2_with fail
      go_end0
      exact ⟨rfl, ⟨Z, HZ.out.1, HS.out, by simpa using HZ.out.2⟩, HO.out⟩
end Go.Proofs.YtppnhdcnjbjibaaGreatDoor
