/- Stable sorting: slices.stableCmpFunc, slices.SortStableFunc. -/
import Derived.Test.YtlhaidibcocooaaGreatDoorStPlain
import Derived.IntWalk
import Derived.BigQuiet
import Derived.StillTailTactics
import Derived.Deep.DeepCutAuto
import Derived.Deep.RegionHeld3
import Derived.Deep.RegionLaw
import Derived.Shelf.SlSortCmp.QuietGrown
namespace Go.Proofs.YtlhaidibcocooaaGreatDoor
open Go.RowKit

/-- the exchange so far -/
def exL (P X Q Y S : List (Nat × EV)) (k : Nat) : List (Nat × EV) := P ++ Y.take k ++ (X.drop k ++ Q ++ X.take k) ++ (Y.drop k ++ S)
theorem exL_zero (P X Q Y S : List (Nat × EV)) : exL P X Q Y S 0 = P ++ X ++ Q ++ Y ++ S := by simp [exL]
theorem exL_end (P X Q Y S : List (Nat × EV)) (h : X.length = Y.length) : exL P X Q Y S X.length = P ++ Y ++ Q ++ X ++ S := by
  unfold exL
  rw [List.drop_length, List.take_length, h, List.drop_length, List.take_length]
  simp
theorem exL_step (P X Q Y S : List (Nat × EV)) (k : Nat) (h : X.length = Y.length) (hk : k < X.length) : ∃ A M B u v,
    exL P X Q Y S k = A ++ u :: (M ++ v :: B) ∧ exL P X Q Y S (k + 1) = A ++ v :: (M ++ u :: B) ∧ A.length = P.length + k ∧ A.length + 1 + M.length = P.length + X.length + Q.length + k := by
  refine ⟨P ++ Y.take k, X.drop (k + 1) ++ Q ++ X.take k, Y.drop (k + 1) ++ S, X[k], Y[k]'(by omega), ?_, ?_, by simp; omega, by simp; omega⟩
  · unfold exL
    rw [List.drop_eq_getElem_cons hk, List.drop_eq_getElem_cons (by omega : k < Y.length)]
    simp only [List.append_assoc, List.cons_append]
  · unfold exL
    rw [List.take_succ_eq_append_getElem hk, List.take_succ_eq_append_getElem (by omega : k < Y.length)]
    simp only [List.append_assoc, List.cons_append, List.nil_append]
set_option maxRecDepth 100000 in
set_option maxHeartbeats 3200000 in
theorem swapRange_any (g N cap : Nat) (P X Q Y S : List (Nat × EV)) (a b n : Nat) (cmp : Value) (w : World) (h : Dat 49 w g N cap (P ++ X ++ Q ++ Y ++ S)) (hxy : X.length = Y.length) (ha : a = P.length) (hb : b = P.length + X.length + Q.length) (hn : n = X.length) (hN : N ≤ 1000000) :
    Calls Tryz.prog 175 #[.slice (some ⟨g, 0, none⟩) N cap, .int .i64 (a : Int), .int .i64 (b : Int), .int .i64 (n : Int), cmp] w fun e w' => e = .returned (.tuple #[]) ∧ Dat 49 w' g N cap (P ++ Y ++ Q ++ X ++ S) ∧ Only g w w' := by
  have hlen := h.len
  have hNb : a + n ≤ 1000000 ∧ b + n ≤ 1000000 := by
    simp at hlen
    omega
  rw [← exL_zero] at h
  have HD := Lib.hid h
  have HE := Lib.hid (fun k hk => exL_step P X Q Y S k hxy hk)
  have HF := Lib.hid (exL_end P X Q Y S hxy)
  have HA := Lib.hid ha
  have HBb := Lib.hid hb
  have HNn := Lib.hid hn
  clear h hlen ha hb hn
  go_enter Tryz.func175, Tryz.ntmps175
  go_wp2_with fail
  go_loopw [10] (fun s10 wr => ∃ k : Nat, s10 = .int .i64 (k : Int) ∧ k ≤ n ∧ Hid (Dat 49 wr g N cap (exL P X Q Y S k)) ∧ Hid (Only g w wr)) (fun s10 _ => n - (intOf s10).toNat)
  case atStart => exact ⟨0, rfl, Nat.zero_le _, HD, Lib.hid (Only.refl g w)⟩
  case round =>
    clear HD
    obtain ⟨k, rfl, hk, HD, HO⟩ := hrel
    by_cases hlt : k < n
    · have ha := HA.out
      have hb := HBb.out
      have hn := HNn.out
      obtain ⟨A, M, B, ⟨ut, u0, u1⟩, ⟨vt, v0, v1⟩, h1, h2, h3, h4⟩ := HE.out k (by omega)
      have hD1 := HD.out
      rw [h1] at hD1
      obtain ⟨p, hp⟩ : ∃ p, p = a + k := ⟨_, rfl⟩
      obtain ⟨q, hq⟩ : ∃ q, q = b + k := ⟨_, rfl⟩
      have hpA : p = A.length := by omega
      have hqA : q = A.length + 1 + M.length := by omega
      have HS := Lib.hid (hD1.swap hpA hqA)
      rw [← h2] at HS
      obtain ⟨l1, x0, x1⟩ := hD1.at hpA
      have hD2 := hD1
      rw [show A ++ (ut, u0, u1) :: (M ++ (vt, v0, v1) :: B) = (A ++ (ut, u0, u1) :: M) ++ (vt, v0, v1) :: B by simp] at hD2
      obtain ⟨l2, y0, y1⟩ := hD2.at (i := q) (by simp; omega)
      have hz := hD1.fz
      have e1 : IntKind.i64.wrap ((a : Int) + (k : Int)) = (p : Int) := by
        rw [show (a : Int) + (k : Int) = (p : Int) by omega]
        exact IntWalk.i64_in _ (by omega)
      have e2 : IntKind.i64.wrap ((b : Int) + (k : Int)) = (q : Int) := by
        rw [show (b : Int) + (k : Int) = (q : Int) by omega]
        exact IntWalk.i64_in _ (by omega)
      have i1 : (p : Int) < (N : Int) := by omega
      have i2 : (q : Int) < (N : Int) := by omega
      have hpq : p ≠ q := by omega
      have hlk : (k : Int) < (n : Int) := by omega
      have HO2 := Lib.hid (((HO.out).trans (putE_only _ g p (v0, v1))).trans (putE_only _ g q (u0, u1)))
      unfold putE at HS HO2
      clear h1 h2 h3 h4 hD1 hD2 hpA hqA ha hb hn hp hq
      dsimp only [k0, k1] at x0 x1 y0 y1 HS HO2
      go_upto_region 3 with fail
      go_region_law (fail)
      all_goals
        go_wp2_with fail
        exact ⟨⟨k + 1, by go_num, by omega, Lib.hid HS.out.drew, Lib.hid (HO2.out.drewN 1)⟩, by simp [intOf]; omega⟩
    · obtain rfl : k = n := by omega
      have hD1 := HD.out
      rw [HNn.out, HF.out] at hD1
      have HZ := Lib.hid hD1
      clear hD1
      go_wp2_with fail
      go_end0
      exact ⟨rfl, HZ.out, HO.out⟩
end Go.Proofs.YtlhaidibcocooaaGreatDoor

namespace Go.Proofs.YtlhaidibcocooaaGreatDoor
open Go.RowKit

theorem split_len (U : List (Nat × EV)) (j : Nat) (h : j ≤ U.length) : ∃ U1 U2, U = U1 ++ U2 ∧ U1.length = j ∧ U2.length = U.length - j :=
  ⟨U.take j, U.drop j, (List.take_append_drop j U).symm, by simp; omega, by simp⟩
set_option maxRecDepth 100000 in
set_option maxHeartbeats 3200000 in
theorem rotate_any (g N cap : Nat) (P X Y S : List (Nat × EV)) (a m b : Nat) (cmp : Value) (w : World) (h : Dat 49 w g N cap (P ++ X ++ Y ++ S)) (ha : a = P.length) (hm : m = P.length + X.length) (hb : b = P.length + X.length + Y.length) (hX : 0 < X.length) (hY : 0 < Y.length) (hN : N ≤ 1000000) :
    Calls Tryz.prog 150 #[.slice (some ⟨g, 0, none⟩) N cap, .int .i64 (a : Int), .int .i64 (m : Int), .int .i64 (b : Int), cmp] w fun e w' => e = .returned (.tuple #[]) ∧ Dat 49 w' g N cap (P ++ Y ++ X ++ S) ∧ Only g w w' := by
  have hlen := h.len
  have hNb : b ≤ 1000000 := by
    simp at hlen
    omega
  obtain ⟨F, hF⟩ : ∃ F, P ++ Y ++ X ++ S = F := ⟨_, rfl⟩
  rw [hF]
  have HD := Lib.hid h
  have HF := Lib.hid hF
  have e0 : IntKind.i64.wrap ((m : Int) - (a : Int)) = (X.length : Int) := by
    rw [show (m : Int) - (a : Int) = (X.length : Int) by omega]
    exact IntWalk.i64_in _ (by omega)
  have e1 : IntKind.i64.wrap ((b : Int) - (m : Int)) = (Y.length : Int) := by
    rw [show (b : Int) - (m : Int) = (Y.length : Int) by omega]
    exact IntWalk.i64_in _ (by omega)
  obtain ⟨x, hx⟩ : ∃ x, X.length = x := ⟨_, rfl⟩
  obtain ⟨y, hy⟩ : ∃ y, Y.length = y := ⟨_, rfl⟩
  have HZ := Lib.hid (show P.length + x = m ∧ X.length = x ∧ Y.length = y ∧ 0 < x ∧ 0 < y from ⟨by omega, hx, hy, by omega, by omega⟩)
  rw [hx] at e0
  rw [hy] at e1
  have hmm : m ≤ 1000000 := by omega
  clear h hlen hF ha hm hb hX hY hx hy
  go_enter Tryz.func150, Tryz.ntmps150
  go_wp2_with fail
  go_loopw [10, 11] (fun s10 s11 wr => ∃ (i j : Nat) (P' U V S' : List (Nat × EV)), s10 = .int .i64 (i : Int) ∧ s11 = .int .i64 (j : Int) ∧ Hid (Dat 49 wr g N cap (P' ++ U ++ V ++ S')) ∧ Hid (P' ++ V ++ U ++ S' = F) ∧ Hid (Only g w wr) ∧ Hid (P'.length + i = m ∧ U.length = i ∧ V.length = j ∧ 0 < i ∧ 0 < j)) (fun s10 s11 _ => (intOf s10).toNat + (intOf s11).toNat)
  case atStart => exact ⟨x, y, P, X, Y, S, rfl, rfl, HD, HF, Lib.hid (Only.refl g w), HZ⟩
  case round =>
    clear HD HF HZ
    obtain ⟨i, j, P', U, V, S', rfl, rfl, HD, HF, HO, HZ⟩ := hrel
    obtain ⟨z1, z2, z3, z4, z5⟩ := HZ.out
    have hN2 : P'.length + U.length + V.length + S'.length = N := by
      have := HD.out.len
      simp at this
      omega
    obtain ⟨p, hp⟩ : ∃ p, P'.length = p := ⟨_, rfl⟩
    have e2 : IntKind.i64.wrap ((m : Int) - (i : Int)) = (p : Int) := by
      rw [show (m : Int) - (i : Int) = (p : Int) by omega]
      exact IntWalk.i64_in _ (by omega)
    by_cases hij : i = j
    · subst hij
      have HS := Lib.hid (swapRange_any g N cap P' U [] V S' p m i cmp wr (by simpa using HD.out) (by omega) (by omega) (by simp; omega) (by omega) hN)
      have HF2 := Lib.hid (show P' ++ V ++ [] ++ U ++ S' = F by simpa using HF.out)
      have hne : ((i : Int) != (i : Int)) = false := by simp
      clear z1 z2 z3 z4 z5 hN2 hp HD HF HZ
      go_wp2_with fail
      refine HS.out.mono ?_
      rintro e w2 ⟨rfl, hd2, ho2⟩
      rw [HF2.out] at hd2
      have HD2 := Lib.hid hd2
      have HO2 := Lib.hid (HO.out.trans ho2)
      clear hd2 ho2
      go_wp2_with fail
      go_end0
      exact ⟨rfl, HD2.out, HO2.out⟩
    · have hne : ((i : Int) != (j : Int)) = true := by rw [bne_iff_ne]; omega
      by_cases hgt : j < i
      · obtain ⟨U1, U2, hU, hU1, hU2⟩ := split_len U j (by omega)
        have hD1 := HD.out
        have hF1 := HF.out
        rw [hU] at hD1 hF1
        have hUl : U.length = U1.length + U2.length := by rw [hU]; simp
        have HS := Lib.hid (swapRange_any g N cap P' U1 U2 V S' p m j cmp wr (by simpa using hD1) (by omega) (by omega) (by omega) (by omega) hN)
        have hg2 : (j : Int) < (i : Int) := by omega
        have e3 : IntKind.i64.wrap ((i : Int) - (j : Int)) = ((i - j : Nat) : Int) := by
          rw [show (i : Int) - (j : Int) = ((i - j : Nat) : Int) by omega]
          exact IntWalk.i64_in _ (by omega)
        have HZ2 := Lib.hid (show (P' ++ V).length + (i - j) = m ∧ U2.length = i - j ∧ U1.length = j ∧ 0 < i - j ∧ 0 < j from ⟨by simp; omega, by omega, hU1, by omega, z5⟩)
        have HF2 := Lib.hid (show (P' ++ V) ++ U1 ++ U2 ++ S' = F by simpa using hF1)
        have hms : (i - j) + j < i + j := by omega
        clear z1 z2 z3 z4 z5 hN2 hp hU hU1 hU2 hUl hD1 hF1
        generalize hd : i - j = d at *
        clear hd
        go_wp2_with fail
        refine HS.out.mono ?_
        rintro e w2 ⟨rfl, hd2, ho2⟩
        have HD2 := Lib.hid (show Dat 49 w2 g N cap ((P' ++ V) ++ U2 ++ U1 ++ S') by simpa using hd2)
        have HO2 := Lib.hid (HO.out.trans ho2)
        clear hd2 ho2
        go_wp2_with fail
        exact ⟨⟨d, j, P' ++ V, U2, U1, S', rfl, rfl, HD2, HF2, HO2, HZ2⟩, by simp [intOf]; omega⟩
      · obtain ⟨V1, V2, hV, hV1, hV2⟩ := split_len V (j - i) (by omega)
        have hD1 := HD.out
        have hF1 := HF.out
        rw [hV] at hD1 hF1
        have hVl : V.length = V1.length + V2.length := by rw [hV]; simp
        obtain ⟨q, hq⟩ : ∃ q, m + j - i = q := ⟨_, rfl⟩
        have HS := Lib.hid (swapRange_any g N cap P' U V1 V2 S' p q i cmp wr (by simpa using hD1) (by omega) (by omega) (by omega) (by omega) hN)
        have hg2 : ¬ (j : Int) < (i : Int) := by omega
        have e3 : IntKind.i64.wrap ((j : Int) - (i : Int)) = ((j - i : Nat) : Int) := by
          rw [show (j : Int) - (i : Int) = ((j - i : Nat) : Int) by omega]
          exact IntWalk.i64_in _ (by omega)
        have e4 : IntKind.i64.wrap ((m : Int) + (j : Int)) = (m : Int) + (j : Int) := IntWalk.i64_in _ (by omega)
        have e5 : IntKind.i64.wrap ((m : Int) + (j : Int) - (i : Int)) = (q : Int) := by
          rw [show (m : Int) + (j : Int) - (i : Int) = (q : Int) by omega]
          exact IntWalk.i64_in _ (by omega)
        have HZ2 := Lib.hid (show P'.length + i = m ∧ V2.length = i ∧ V1.length = j - i ∧ 0 < i ∧ 0 < j - i from ⟨by omega, by omega, hV1, z4, by omega⟩)
        have HF2 := Lib.hid (show P' ++ V1 ++ V2 ++ (U ++ S') = F by simpa using hF1)
        have hms : i + (j - i) < i + j := by omega
        clear z1 z2 z3 z4 z5 hN2 hp hV hV1 hV2 hVl hD1 hF1
        generalize hd : j - i = d at *
        clear hd hq
        go_wp2_with fail
        refine HS.out.mono ?_
        rintro e w2 ⟨rfl, hd2, ho2⟩
        have HD2 := Lib.hid (show Dat 49 w2 g N cap (P' ++ V2 ++ V1 ++ (U ++ S')) by simpa using hd2)
        have HO2 := Lib.hid (HO.out.trans ho2)
        clear hd2 ho2
        go_wp2_with fail
        exact ⟨⟨i, d, P', V2, V1, U ++ S', rfl, rfl, HD2, HF2, HO2, HZ2⟩, by simp [intOf]; omega⟩
end Go.Proofs.YtlhaidibcocooaaGreatDoor

namespace Go.Proofs.YtlhaidibcocooaaGreatDoor
open Go.RowKit Go.Sort

theorem Dat.swap2 {T : TypeId} {w : World} {g n cap : Nat} {A M B : List (Nat × EV)} {u v : Nat × EV} (h : Dat T w g n cap (A ++ u :: (M ++ v :: B))) {i j : Nat} (hi : i = A.length) (hj : j = A.length + 1 + M.length) :
    Dat T (putE (putE w g j u.2) g i v.2) g n cap (A ++ v :: (M ++ u :: B)) := by
  have h1 := (h.put j u.1 u.2).put i v.1 v.2
  rw [List.set_comm _ _ (by omega : j ≠ i)] at h1
  rwa [swapped hi hj] at h1
/-- what the keys are: the first number of an element -/
def keyE (v : EV) : Int := v.1
def goodE (v : EV) : Prop := 0 ≤ v.1 ∧ v.1 ≤ 1000000000
def aggE (v : EV) : Value := .agg #[k0 v, k1 v]
theorem two_grow (w : World) (o1 o2 : Obj) : (w.alloc o1).alloc o2 = grow (w.drewN 0) #[o1, o2] := by
  rw [alloc_eq_grow w o1, alloc_eq_grow, grow_grow]
  rfl
theorem Dat.grown {T : TypeId} {w : World} {g n cap : Nat} {L : List (Nat × EV)} (h : Dat T w g n cap L) (q : Nat) (os : Array Obj) : Dat T (grow (w.drewN q) os) g n cap L := by
  refine ⟨⟨h.own.1, ?_⟩, h.len⟩
  rcases h.own.2 with h0 | ⟨g', cap', cur, hv, hb', hg, h3⟩
  · exact .inl h0
  · refine .inr ⟨g', cap', cur, hv, hb', ?_, h3⟩
    have hl := (Array.getElem?_eq_some_iff.1 hg).1
    unfold grow
    rw [Array.getElem?_append_left (by exact hl)]
    exact hg
theorem Only.grown2 {g : Nat} {w w' : World} (h : Only g w w') (q : Nat) (os : Array Obj) : Only g w (grow (w'.drewN q) os) := by
  refine ⟨h.os, h.tape, h.output, ?_, fun k hk hg => ?_⟩
  · show w.heap.size ≤ (w'.heap ++ os).size
    rw [Array.size_append]
    have := h.size
    omega
  · show (w'.heap ++ os)[k]? = _
    rw [Array.getElem?_append_left (by have := h.size; omega)]
    exact h.block k hk hg
set_option maxHeartbeats 1600000 in
theorem cmp_any (x y : EV) (hx : goodE x) (hy : goodE y) (w : World) :
    Calls Tryz.prog 44 #[aggE x, aggE y] w fun e w' => e = .returned (.int .i64 (x.1 - y.1)) ∧ ∃ q os', w' = grow (w.drewN q) os' := by
  obtain ⟨x0, x1⟩ := x
  obtain ⟨y0, y1⟩ := y
  unfold aggE
  obtain ⟨h1, h2⟩ := hx
  obtain ⟨h3, h4⟩ := hy
  dsimp only [k0, k1] at *
  have e1 : IntKind.i64.wrap (x0 - y0) = x0 - y0 := IntWalk.i64_in _ (by omega)
  go_enter Tryz.func44, Tryz.ntmps44
  go_wp2_with fail
  go_ret
  exact ⟨rfl, 0, #[.cells #[.int .i64 x0, .int .i64 x1] 49, .cells #[.int .i64 y0, .int .i64 y1] 49], two_grow w _ _⟩
/-- the element that is inserted has come down to place c -/
def insL (P Z R : List (Nat × EV)) (x : Nat × EV) (c : Nat) : List (Nat × EV) := P ++ Z.take c ++ (x :: (Z.drop c ++ R))
theorem insL_step (P Z R : List (Nat × EV)) (x : Nat × EV) (c : Nat) (hc : c + 1 ≤ Z.length) : ∃ A u B,
    insL P Z R x (c + 1) = A ++ u :: ([] ++ x :: B) ∧ insL P Z R x c = A ++ x :: ([] ++ u :: B) ∧ A.length = P.length + c ∧ u = Z[c] := by
  refine ⟨P ++ Z.take c, Z[c], Z.drop (c + 1) ++ R, ?_, ?_, by simp; omega, rfl⟩
  · unfold insL
    rw [List.take_succ_eq_append_getElem (by omega : c < Z.length)]
    simp only [List.append_assoc, List.cons_append, List.nil_append]
  · unfold insL
    rw [List.drop_eq_getElem_cons (by omega : c < Z.length)]
    simp only [List.append_assoc, List.cons_append, List.nil_append]
set_option maxRecDepth 100000 in
set_option maxHeartbeats 6400000 in
theorem ins_any (g N cap : Nat) (P M S : List (Nat × EV)) (a b : Nat) (w : World) (h : Dat 49 w g N cap (P ++ M ++ S)) (ha : a = P.length) (hb : b = P.length + M.length) (hM : 0 < M.length) (hr : Rise M) (hg : ∀ p ∈ M, goodE p.2) (hN : N ≤ 1000000) :
    Calls Tryz.prog 108 #[.slice (some ⟨g, 0, none⟩) N cap, .int .i64 (a : Int), .int .i64 (b : Int), .func (.func 44) #[] #[]] w fun e w' => e = .returned (.tuple #[]) ∧ (∃ Z : List (Nat × EV), Z.Perm M ∧ Srt keyE Z ∧ Dat 49 w' g N cap (P ++ Z ++ S)) ∧ Only g w w' := by
  have mixed : Tryz.prog.follows .mixedOrders = true := by kernel_rfl
  have hNb : b ≤ 1000000 := by
    have := h.len
    simp at this
    omega
  have HD := Lib.hid h
  have HA := Lib.hid ha
  have HB := Lib.hid hb
  have HR := Lib.hid hr
  have HG := Lib.hid hg
  have e1 : IntKind.i64.wrap ((a : Int) + 1) = (a : Int) + 1 := IntWalk.i64_in _ (by omega)
  have HS0 := Lib.hid (show 0 < M.length ∧ Dat 49 w g N cap (P ++ M.take 1 ++ (M.drop 1 ++ S)) from ⟨hM, by
    have e : M.take 1 ++ (M.drop 1 ++ S) = M ++ S := by rw [← List.append_assoc, List.take_append_drop]
    rw [List.append_assoc, e, ← List.append_assoc]
    exact h⟩)
  clear h ha hb hr hg hM HD
  go_enter Tryz.func108, Tryz.ntmps108
  go_wp2_with fail
  go_loopw [8] (fun s8 wr => ∃ (i k : Nat) (Z : List (Nat × EV)), s8 = .int .i64 (i : Int) ∧ Hid (i = a + k) ∧ Hid (0 < k ∧ k ≤ M.length) ∧ Hid (Z.Perm (M.take k)) ∧ Hid (Srt keyE Z) ∧ Hid (Dat 49 wr g N cap (P ++ Z ++ (M.drop k ++ S))) ∧ Hid (Only g w wr)) (fun s8 _ => b - (intOf s8).toNat)
  case atStart => exact ⟨a + 1, 1, M.take 1, by simp, Lib.hid rfl, Lib.hid ⟨by decide, HS0.out.1⟩, Lib.hid (List.Perm.refl _), Lib.hid (by
    obtain ⟨hM, _⟩ := HS0.out
    match M, hM with
    | x :: r, _ => exact List.pairwise_singleton _ _), Lib.hid HS0.out.2, Lib.hid (Only.refl g w)⟩
  case round =>
    clear HS0
    obtain ⟨i, k, Z, rfl, HI, HK, HP, HS, HD, HO⟩ := hrel
    have hZl : Z.length = k := by
      have := HP.out.length_eq
      have := HK.out.2
      simp at *
      omega
    by_cases hlt : k < M.length
    · have hib : (i : Int) < (b : Int) := by have := HI.out; have := HA.out; have := HB.out; omega
      obtain ⟨x, hx⟩ : ∃ x, M[k] = x := ⟨_, rfl⟩
      have HX := Lib.hid hx
      have hdr : M.drop k = x :: M.drop (k + 1) := by rw [List.drop_eq_getElem_cons hlt, hx]
      have hD1 := HD.out
      rw [hdr] at hD1
      have HD1 := Lib.hid (show Dat 49 wr g N cap (insL P Z (M.drop (k + 1) ++ S) x Z.length) by
        unfold insL
        rw [List.take_length, List.drop_length]
        simpa using hD1)
      have hin : i ≤ 1000000 := by have := HI.out; have := HA.out; have := HB.out; omega
      clear hx hdr hD1 HD
      generalize hwq : wr = wq at *
      clear hwq
      go_wp2_with fail
      go_loopw [9] (fun s9 wx => ∃ (j c : Nat), s9 = .int .i64 (j : Int) ∧ Hid (j = a + c) ∧ Hid (c ≤ Z.length) ∧ Hid (∀ h : c < Z.length, keyE x.2 < keyE Z[c].2) ∧ Hid (Dat 49 wx g N cap (insL P Z (M.drop (k + 1) ++ S) x c)) ∧ Hid (Only g wq wx)) (fun s9 _ => (intOf s9).toNat)
      case atStart => exact ⟨i, Z.length, rfl, Lib.hid (by have := HI.out; omega), Lib.hid (Nat.le_refl _), Lib.hid (fun h => absurd h (Nat.lt_irrefl _)), HD1, Lib.hid (Only.refl g wq)⟩
      case round =>
        obtain ⟨j, c, rfl, HJ, HC, HL, HDx, HOx⟩ := hrel
        go_upto_region 4 with fail
        go_cut [34] (fun s34 wy => ∃ bb : Bool, s34 = .bool bb ∧ Hid (bb = true ↔ ∃ h : c - 1 < Z.length ∧ 0 < c, keyE x.2 < keyE (Z[c - 1]'h.1).2) ∧ Hid (Dat 49 wy g N cap (insL P Z (M.drop (k + 1) ++ S) x c)) ∧ Hid (Only g wq wy))
        case first =>
          by_cases hc0 : c = 0
          · have hja : ¬ (a : Int) < (j : Int) := by have := HJ.out; omega
            have hjb : decide ((j : Int) > (a : Int)) = false := decide_eq_false hja
            have HDd := Lib.hid HDx.out.drew
            have HOd := Lib.hid (HOx.out.drewN 1)
            go_big_region_o
            all_goals
              go_wp2_with fail
              go_meet
              exact ⟨false, rfl, Lib.hid ⟨fun h => (by cases h), fun ⟨h, _⟩ => absurd h.2 (by omega)⟩, HDd, HOd⟩
          · obtain ⟨c', rfl⟩ : ∃ c', c = c' + 1 := ⟨c - 1, by omega⟩
            have hcz := HC.out
            obtain ⟨A, ⟨ut, u0, u1⟩, B, h1, _, hA, hu⟩ := insL_step P Z (M.drop (k + 1) ++ S) x c' hcz
            obtain ⟨xt, x0, x1⟩ := x
            obtain ⟨jp, rfl⟩ : ∃ jp, j = jp + 1 := ⟨j - 1, by have := HJ.out; omega⟩
            have hjp : jp = A.length := by have := HJ.out; have := HA.out; omega
            have hD2 := HDx.out
            rw [h1] at hD2
            have hcu := fun n' os' => (hD2.grown n' os').at hjp
            have hcx := fun n' os' => (show Dat 49 (grow (wr.drewN n') os') g N cap ((A ++ [(ut, u0, u1)]) ++ (xt, x0, x1) :: B) by simpa using hD2.grown n' os').at (i := jp + 1) (by simp; omega)
            have hjN : jp + 1 < N := (hcx 0 #[]).1
            have c0 := fun n' os' => (hcu n' os').2.1
            have c1 := fun n' os' => (hcu n' os').2.2
            have d0 := fun n' os' => (hcx n' os').2.1
            have d1 := fun n' os' => (hcx n' os').2.2
            dsimp only [k0, k1] at c0 c1 d0 d1
            have gx : goodE (x0, x1) := HG.out (xt, x0, x1) (HX.out ▸ List.getElem_mem hlt)
            have gu : goodE (u0, u1) := HG.out (ut, u0, u1) (by
              have hm : (ut, u0, u1) ∈ Z := hu ▸ List.getElem_mem (by omega)
              exact List.mem_of_mem_take ((HP.out.mem_iff).1 hm))
            have hcg := fun n' os' => cmp_any _ _ gx gu (grow (wr.drewN n') os')
            unfold aggE at hcg
            dsimp only [k0, k1] at hcg
            have HCG := Lib.hid hcg
            have hja : (a : Int) < (jp : Int) + 1 := by have := HJ.out; omega
            have hwp : IntKind.i64.wrap (jp : Int) = (jp : Int) := IntWalk.i64_in _ (by omega)
            have jz : (jp : Int) + 1 < (N : Int) := by omega
            have jz1 : (jp : Int) < (N : Int) := by omega
            have p0 : (0 : Int) ≤ (jp : Int) + 1 := by omega
            have e0 : ((jp : Int) + 1).toNat = jp + 1 := by omega
            have HHu := Lib.hid (show ∃ h : c' < Z.length, (ut, u0, u1) = Z[c']'h from ⟨by omega, hu⟩)
            clear hcu hcx hD2 h1 hA hu hjp hcz gx gu hcg HD1
            go_quiet_grown (first | (go_at_call 44; refine Calls.grown_of (HCG.out _ _)))
            have HGr := Lib.hid (And.intro (HDx.out.grown nq osq) (HOx.out.grown2 nq osq))
            clear c0 c1 d0 d1
            go_wp2_with fail
            go_meet
            refine ⟨decide (x0 - u0 < 0), rfl, Lib.hid ⟨fun h => ?_, fun ⟨h, h2⟩ => ?_⟩, Lib.hid HGr.out.1, Lib.hid HGr.out.2⟩
            · obtain ⟨hz, he⟩ := HHu.out
              have h := of_decide_eq_true h
              refine ⟨⟨hz, by omega⟩, ?_⟩
              show keyE _ < keyE (Z[c']'hz).2
              rw [← he]
              show x0 < u0
              omega
            · obtain ⟨hz, he⟩ := HHu.out
              have h3 : keyE (x0, x1) < keyE (Z[c']'hz).2 := h2
              rw [← he] at h3
              have h4 : x0 < u0 := h3
              exact decide_eq_true (by omega)
        case rest =>
        obtain ⟨bb, rfl, HBB, HDy, HOy⟩ := hcut
        cases bb with
        | false =>
          have hc := HC.out
          have htg : ∀ y ∈ Z, y.1 < x.1 := fun y hy => by
            have hm := (HP.out.mem_iff).1 hy
            have hr : Rise (M.take k ++ M.drop k) := by rw [List.take_append_drop]; exact HR.out
            refine (Rise.cut hr).2.2 y hm x ?_
            rw [List.drop_eq_getElem_cons hlt, HX.out]
            exact List.mem_cons_self
          have hpl := put_last (key := keyE) (x := x) HS.out hc htg (fun a h => by have := HBB.out.2 ⟨⟨by omega, a⟩, h⟩; cases this) HL.out
          have hpm : (Z.take c ++ x :: Z.drop c).Perm (M.take (k + 1)) := by
            refine hpl.1.trans ?_
            rw [List.take_succ_eq_append_getElem hlt, HX.out]
            exact HP.out.append_right _
          have hdt : Dat 49 wc g N cap (P ++ (Z.take c ++ x :: Z.drop c) ++ (M.drop (k + 1) ++ S)) := by
            have := HDy.out
            unfold insL at this
            simpa using this
          have HZ := Lib.hid (And.intro hpm (And.intro hpl.2 (And.intro hdt (HO.out.trans HOy.out))))
          have hi2 : IntKind.i64.wrap ((i : Int) + 1) = (i : Int) + 1 := IntWalk.i64_in _ (by omega)
          have hik := HI.out
          clear hpl hpm hdt htg hc
          go_wp2_with fail
          exact ⟨⟨i + 1, k + 1, Z.take c ++ x :: Z.drop c, by simp; omega, Lib.hid (by omega), Lib.hid ⟨by omega, by omega⟩, Lib.hid HZ.out.1, Lib.hid HZ.out.2.1, Lib.hid HZ.out.2.2.1, Lib.hid HZ.out.2.2.2⟩, by simp [intOf]; omega⟩
        | true =>
          obtain ⟨⟨hcz, hc0⟩, hlx⟩ := HBB.out.1 rfl
          obtain ⟨c', rfl⟩ : ∃ c', c = c' + 1 := ⟨c - 1, by omega⟩
          obtain ⟨A, ⟨ut, u0, u1⟩, B, h1, h2, hA, hu⟩ := insL_step P Z (M.drop (k + 1) ++ S) x c' HC.out
          have HLx := Lib.hid (show ∀ h : c' < Z.length, keyE x.2 < keyE Z[c'].2 from fun _ => hlx)
          obtain ⟨xt, x0, x1⟩ := x
          obtain ⟨jp, rfl⟩ : ∃ jp, j = jp + 1 := ⟨j - 1, by have := HJ.out; omega⟩
          have hjp : jp = A.length := by have := HJ.out; have := HA.out; omega
          have hD1 := HDy.out
          rw [h1] at hD1
          have HSw := Lib.hid (hD1.swap2 hjp (j := jp + 1) (by simp; omega))
          rw [← h2] at HSw
          obtain ⟨l1, d0, d1⟩ := hD1.at hjp
          have hD2 := (show Dat 49 wc g N cap ((A ++ [(ut, u0, u1)]) ++ (xt, x0, x1) :: B) by simpa using hD1)
          obtain ⟨l2, y0, y1⟩ := hD2.at (i := jp + 1) (by simp; omega)
          have hz := hD1.fz
          have HO2 := Lib.hid ((HOy.out.trans (putE_only _ g (jp + 1) (u0, u1))).trans (putE_only _ g jp (x0, x1)))
          unfold putE at HSw HO2
          dsimp only [k0, k1] at d0 d1 y0 y1 HSw HO2
          have hwp : IntKind.i64.wrap (jp : Int) = (jp : Int) := IntWalk.i64_in _ (by omega)
          have jz : (jp : Int) + 1 < (N : Int) := by omega
          have jz1 : (jp : Int) < (N : Int) := by omega
          have p0 : (0 : Int) ≤ (jp : Int) + 1 := by omega
          have e0 : ((jp : Int) + 1).toNat = jp + 1 := by omega
          have HJ2 := Lib.hid (show jp = a + c' by have := HJ.out; omega)
          have HC2 := Lib.hid (show c' ≤ Z.length by have := HC.out; omega)
          clear h1 h2 hA hu hjp hD1 hD2 hlx HD1
          go_upto_region 6 with fail
          go_region_law (fail)
          all_goals
            go_wp2_with fail
            exact ⟨⟨jp, c', rfl, HJ2, HC2, HLx, Lib.hid HSw.out.drew, Lib.hid (HO2.out.drewN 1)⟩, by simp [intOf]⟩
    · have hke : k = M.length := by have := HK.out.2; omega
      have hib : ¬ (i : Int) < (b : Int) := by have := HI.out; have := HA.out; have := HB.out; omega
      have hp := HP.out
      have hd := HD.out
      rw [hke, List.take_length] at hp
      rw [hke, List.drop_length, List.nil_append] at hd
      have HZ := Lib.hid (And.intro hp hd)
      clear hp hd hke
      go_wp2_with fail
      go_end0
      exact ⟨rfl, ⟨Z, HZ.out.1, HS.out, by simpa using HZ.out.2⟩, HO.out⟩
end Go.Proofs.YtlhaidibcocooaaGreatDoor

namespace Go.Proofs.YtlhaidibcocooaaGreatDoor
open Go.RowKit Go.Sort

/-- an element of a range in its place -/
theorem at_mid (P Y S : List (Nat × EV)) (e : Nat) (h : e < Y.length) : P ++ Y ++ S = (P ++ Y.take e) ++ Y[e] :: (Y.drop (e + 1) ++ S) := by
  conv => lhs; rw [← List.take_append_drop e Y, List.drop_eq_getElem_cons h]
  simp only [List.append_assoc, List.cons_append]
/-- the first element has come to place f -/
theorem bub_step (P Y S : List (Nat × EV)) (x : Nat × EV) (f : Nat) (h : f < Y.length) : ∃ A u B,
    P ++ (Y.take f ++ x :: Y.drop f) ++ S = A ++ x :: ([] ++ u :: B) ∧ P ++ (Y.take (f + 1) ++ x :: Y.drop (f + 1)) ++ S = A ++ u :: ([] ++ x :: B) ∧ A.length = P.length + f := by
  refine ⟨P ++ Y.take f, Y[f], Y.drop (f + 1) ++ S, ?_, ?_, by simp; omega⟩
  · rw [List.drop_eq_getElem_cons h]
    simp only [List.append_assoc, List.cons_append, List.nil_append]
  · rw [List.take_succ_eq_append_getElem h]
    simp only [List.append_assoc, List.cons_append, List.nil_append]
set_option maxRecDepth 100000 in
set_option maxHeartbeats 6400000 in
theorem first_any (g N cap : Nat) (P Y S : List (Nat × EV)) (x : Nat × EV) (a m b : Nat) (w : World) (h : Dat 49 w g N cap (P ++ [x] ++ Y ++ S)) (ha : a = P.length) (hm : m = P.length + 1) (hb : b = P.length + 1 + Y.length) (hY : Srt keyE Y) (ht : ∀ y ∈ Y, x.1 < y.1) (hg : ∀ p ∈ x :: Y, goodE p.2) (hN : N ≤ 1000000) :
    Calls Tryz.prog 109 #[.slice (some ⟨g, 0, none⟩) N cap, .int .i64 (a : Int), .int .i64 (m : Int), .int .i64 (b : Int), .func (.func 44) #[] #[]] w fun e w' => e = .returned (.tuple #[]) ∧ (∃ Z : List (Nat × EV), Z.Perm ([x] ++ Y) ∧ Srt keyE Z ∧ Dat 49 w' g N cap (P ++ Z ++ S)) ∧ Only g w w' := by
  have mixed : Tryz.prog.follows .mixedOrders = true := by kernel_rfl
  have hNb : b ≤ N := by
    have := h.len
    simp at this
    omega
  have e1 : IntKind.i64.wrap ((m : Int) - (a : Int)) = 1 := by
    rw [show (m : Int) - (a : Int) = 1 by omega]
    rfl
  have HA := Lib.hid (And.intro ha (And.intro hm hb))
  have HD := Lib.hid h
  have HG := Lib.hid hg
  clear h ha hm hb hg
  go_enter Tryz.func109, Tryz.ntmps109
  go_wp2_with fail
  go_loopw [10, 11] (fun s10 s11 wr => ∃ (i j c d : Nat), s10 = .int .i64 (i : Int) ∧ s11 = .int .i64 (j : Int) ∧ Hid (i = m + c ∧ j = m + d ∧ c ≤ d ∧ d ≤ Y.length) ∧ Hid (∀ h : 0 < c ∧ c - 1 < Y.length, keyE (Y[c - 1]'h.2).2 < keyE x.2) ∧ Hid (∀ h : d < Y.length, ¬ keyE Y[d].2 < keyE x.2) ∧ Hid (Dat 49 wr g N cap (P ++ [x] ++ Y ++ S)) ∧ Hid (Only g w wr)) (fun s10 s11 _ => (intOf s11).toNat - (intOf s10).toNat)
  case atStart => exact ⟨m, b, 0, Y.length, rfl, rfl, Lib.hid (by have := HA.out; omega), Lib.hid (fun h => absurd h.1 (by omega)), Lib.hid (fun h => absurd h (Nat.lt_irrefl _)), HD, Lib.hid (Only.refl g w)⟩
  case round =>
    clear HD
    obtain ⟨i, j, c, d, rfl, rfl, HI, HL, HR, HD, HO⟩ := hrel
    by_cases hij : i < j
    · have hijz : (i : Int) < (j : Int) := by omega
      have hjb : j ≤ 1000000 := by have := HI.out; have := HA.out; omega
      have hs : IntKind.i64.wrap ((i : Int) + (j : Int)) = ((i + j : Nat) : Int) := by
        rw [show (i : Int) + (j : Int) = ((i + j : Nat) : Int) by omega]
        exact IntWalk.i64_in _ (by omega)
      go_upto_region 5 with fail
      obtain ⟨q, hq⟩ : ∃ q : Nat, q = (i + j) / 2 := ⟨_, rfl⟩
      have hqi : ((i : Int) + (j : Int)) / 2 = (q : Int) := by omega
      obtain ⟨e, he⟩ : ∃ e, q = m + e := ⟨q - m, by have := HI.out; omega⟩
      have hed : c ≤ e ∧ e < d := by have := HI.out; omega
      have heY : e < Y.length := by have := HI.out; omega
      have HE := Lib.hid (And.intro he hed)
      rw [hqi]
      have hDy := HD.out
      rw [at_mid (P ++ [x]) Y S e heY] at hDy
      have hDx := HD.out
      rw [show P ++ [x] ++ Y ++ S = P ++ x :: (Y ++ S) by simp] at hDx
      obtain ⟨Ye, hYe⟩ : ∃ u, Y[e] = u := ⟨_, rfl⟩
      rw [hYe] at hDy
      have gy : goodE Ye.2 := HG.out Ye (List.mem_cons_of_mem _ (hYe ▸ List.getElem_mem heY))
      have gx : goodE x.2 := HG.out x List.mem_cons_self
      have hqA : q = (P ++ [x] ++ Y.take e).length := by have := HA.out; simp; omega
      have haA : a = P.length := HA.out.1
      obtain ⟨yt, y0, y1⟩ := Ye
      obtain ⟨xt, x0, x1⟩ := x
      have hcy := fun n' os' => (hDy.grown n' os').at hqA
      have hcx := fun n' os' => (hDx.grown n' os').at haA
      have hqN : q < N := (hcy 0 #[]).1
      have haN : a < N := (hcx 0 #[]).1
      have c0 := fun n' os' => (hcy n' os').2.1
      have c1 := fun n' os' => (hcy n' os').2.2
      have d0 := fun n' os' => (hcx n' os').2.1
      have d1 := fun n' os' => (hcx n' os').2.2
      dsimp only [k0, k1] at c0 c1 d0 d1
      have hcg := fun n' os' => cmp_any _ _ gy gx (grow (wr.drewN n') os')
      unfold aggE at hcg
      dsimp only [k0, k1] at hcg
      have HCG := Lib.hid hcg
      have HYe := Lib.hid hYe
      have jz : (q : Int) < (N : Int) := by omega
      have jz1 : (a : Int) < (N : Int) := by omega
      clear hcy hcx hDy hDx hqA haA gy gx hcg hYe hq he
      go_quiet_grown (first | (go_at_call 44; refine Calls.grown_of (HCG.out _ _)))
      have HGr := Lib.hid (And.intro (HD.out.grown nq osq) (HO.out.grown2 nq osq))
      clear c0 c1 d0 d1 HD
      dsimp only
      generalize grow (wr.drewN nq) osq = w2 at *
      by_cases hlt : y0 - x0 < 0
      · have hlow := Lib.hid (show ∀ h : 0 < e + 1 ∧ e + 1 - 1 < Y.length, keyE (Y[e + 1 - 1]'h.2).2 < keyE (x0, x1) from fun h => by
          show keyE (Y[e]'heY).2 < _
          rw [HYe.out]
          show y0 < x0
          omega)
        have HI2 := Lib.hid (show q + 1 = m + (e + 1) ∧ j = m + d ∧ e + 1 ≤ d ∧ d ≤ Y.length by have := HE.out; have := HI.out; omega)
        have hms : j - (q + 1) < j - i := by have := HE.out; have := HI.out; omega
        go_wp2_with fail
        exact ⟨⟨q + 1, j, e + 1, d, by simp, rfl, HI2, hlow, HR, Lib.hid HGr.out.1, Lib.hid HGr.out.2⟩, by simp [intOf]; omega⟩
      · have hhigh := Lib.hid (show ∀ h : e < Y.length, ¬ keyE (Y[e]'h).2 < keyE (x0, x1) from fun h => by
          rw [HYe.out]
          show ¬ y0 < x0
          omega)
        have HI2 := Lib.hid (show i = m + c ∧ q = m + e ∧ c ≤ e ∧ e ≤ Y.length by have := HE.out; have := HI.out; omega)
        have hms : q - i < j - i := by have := HE.out; have := HI.out; omega
        go_wp2_with fail
        exact ⟨⟨i, q, c, e, rfl, rfl, HI2, HL, hhigh, Lib.hid HGr.out.1, Lib.hid HGr.out.2⟩, by simp [intOf]; omega⟩
    · have hcd : c = d := by have := HI.out; omega
      subst hcd
      have hcY : c ≤ Y.length := HI.out.2.2.2
      have hpf := put_first (key := keyE) (x := x) hY hcY ht (fun a => HL.out ⟨a, by omega⟩) HR.out
      have HZ := Lib.hid hpf
      have hw1 : IntKind.i64.wrap ((i : Int) - 1) = ((i - 1 : Nat) : Int) := by
        have := HI.out; have := HA.out
        rw [show (i : Int) - 1 = ((i - 1 : Nat) : Int) by omega]
        exact IntWalk.i64_in _ (by omega)
      have hnlt : ¬ (i : Int) < (j : Int) := by omega
      clear hpf
      go_wp2_with fail
      go_loopw [13] (fun s13 wx => ∃ (k f : Nat), s13 = .int .i64 (k : Int) ∧ Hid (k = a + f ∧ f ≤ c) ∧ Hid (Dat 49 wx g N cap (P ++ (Y.take f ++ x :: Y.drop f) ++ S)) ∧ Hid (Only g w wx)) (fun s13 _ => i - (intOf s13).toNat)
      case atStart => exact ⟨a, 0, rfl, Lib.hid ⟨by omega, by omega⟩, Lib.hid (by simpa using HD.out), HO⟩
      case round =>
        obtain ⟨k, f, rfl, HK, HDx, HOx⟩ := hrel
        by_cases hfc : f < c
        · obtain ⟨A, ⟨ut, u0, u1⟩, B, h1, h2, hA⟩ := bub_step P Y S x f (by omega)
          obtain ⟨xt, x0, x1⟩ := x
          have hkA : k = A.length := by have := HK.out; have := HA.out; omega
          have hD1 := HDx.out
          rw [h1] at hD1
          have HSw := Lib.hid (hD1.swap hkA (j := k + 1) (by simp; omega))
          rw [← h2] at HSw
          obtain ⟨l1, y0, y1⟩ := hD1.at hkA
          have hD2 := (show Dat 49 wr g N cap ((A ++ [(xt, x0, x1)]) ++ (ut, u0, u1) :: B) by simpa using hD1)
          obtain ⟨l2, d0, d1⟩ := hD2.at (i := k + 1) (by simp; omega)
          have hz := hD1.fz
          have HO2 := Lib.hid ((HOx.out.trans (putE_only _ g k (u0, u1))).trans (putE_only _ g (k + 1) (x0, x1)))
          unfold putE at HSw HO2
          dsimp only [k0, k1] at d0 d1 y0 y1 HSw HO2
          have hki : (k : Int) < ((i - 1 : Nat) : Int) := by have := HK.out; have := HI.out; have := HA.out; omega
          have hwk : IntKind.i64.wrap ((k : Int) + 1) = (k : Int) + 1 := IntWalk.i64_in _ (by omega)
          have jz : (k : Int) + 1 < (N : Int) := by omega
          have jz1 : (k : Int) < (N : Int) := by omega
          have p0 : (0 : Int) ≤ (k : Int) + 1 := by omega
          have e0 : ((k : Int) + 1).toNat = k + 1 := by omega
          have HK2 := Lib.hid (show k + 1 = a + (f + 1) ∧ f + 1 ≤ c by have := HK.out; omega)
          have hms : i - (k + 1) < i - k := by have := HK.out; have := HI.out; have := HA.out; omega
          clear h1 h2 hA hkA hD1 hD2
          go_wp2_with fail
          go_region_law (fail)
          all_goals
            go_wp2_with fail
            exact ⟨⟨k + 1, f + 1, by simp, HK2, Lib.hid HSw.out.drew, Lib.hid (HO2.out.drewN 1)⟩, by simp [intOf]; omega⟩
        · have hfe : f = c := by have := HK.out; omega
          subst hfe
          have hki : ¬ (k : Int) < ((i - 1 : Nat) : Int) := by have := HK.out; have := HI.out; have := HA.out; omega
          have HF := Lib.hid (And.intro HDx.out HOx.out)
          go_wp2_with fail
          refine bodyPost_ret (results_none rfl _ _ _) rfl ?_
          exact ⟨rfl, ⟨_, HZ.out.1, HZ.out.2, by simpa using HF.out.1⟩, HF.out.2⟩
end Go.Proofs.YtlhaidibcocooaaGreatDoor

namespace Go.Proofs.YtlhaidibcocooaaGreatDoor
open Go.RowKit Go.Sort

set_option maxRecDepth 100000 in
set_option maxHeartbeats 6400000 in
theorem last_any (g N cap : Nat) (P X S : List (Nat × EV)) (y : Nat × EV) (a m b : Nat) (w : World) (h : Dat 49 w g N cap (P ++ X ++ [y] ++ S)) (ha : a = P.length) (hm : m = P.length + X.length) (hb : b = P.length + X.length + 1) (hX1 : X.length ≠ 1) (hX : Srt keyE X) (ht : ∀ x ∈ X, x.1 < y.1) (hg : ∀ p ∈ y :: X, goodE p.2) (hN : N ≤ 1000000) :
    Calls Tryz.prog 109 #[.slice (some ⟨g, 0, none⟩) N cap, .int .i64 (a : Int), .int .i64 (m : Int), .int .i64 (b : Int), .func (.func 44) #[] #[]] w fun e w' => e = .returned (.tuple #[]) ∧ (∃ Z : List (Nat × EV), Z.Perm (X ++ [y]) ∧ Srt keyE Z ∧ Dat 49 w' g N cap (P ++ Z ++ S)) ∧ Only g w w' := by
  have mixed : Tryz.prog.follows .mixedOrders = true := by kernel_rfl
  have hNb : b ≤ N := by
    have := h.len
    simp at this
    omega
  obtain ⟨n, hn⟩ : ∃ n, X.length = n := ⟨_, rfl⟩
  have e1 : IntKind.i64.wrap ((m : Int) - (a : Int)) = (n : Int) := by
    rw [show (m : Int) - (a : Int) = (n : Int) by omega]
    exact IntWalk.i64_in _ (by omega)
  have e2 : ((n : Int) == 1) = false := by rw [beq_eq_false_iff_ne]; omega
  have e3 : IntKind.i64.wrap ((b : Int) - (m : Int)) = 1 := by
    rw [show (b : Int) - (m : Int) = 1 by omega]
    rfl
  have HA := Lib.hid (show a = P.length ∧ m = a + n ∧ b = m + 1 ∧ X.length = n from ⟨ha, by omega, by omega, hn⟩)
  have HD := Lib.hid h
  have HG := Lib.hid hg
  clear h ha hm hb hg hn hX1
  go_enter Tryz.func109, Tryz.ntmps109
  go_wp2_with fail
  go_loopw [14, 15] (fun s10 s11 wr => ∃ (i j c d : Nat), s10 = .int .i64 (i : Int) ∧ s11 = .int .i64 (j : Int) ∧ Hid (i = a + c ∧ j = a + d ∧ c ≤ d ∧ d ≤ X.length) ∧ Hid (∀ h : 0 < c ∧ c - 1 < X.length, ¬ keyE y.2 < keyE (X[c - 1]'h.2).2) ∧ Hid (∀ h : d < X.length, keyE y.2 < keyE X[d].2) ∧ Hid (Dat 49 wr g N cap (P ++ X ++ [y] ++ S)) ∧ Hid (Only g w wr)) (fun s10 s11 _ => (intOf s11).toNat - (intOf s10).toNat)
  case atStart => exact ⟨a, m, 0, X.length, rfl, rfl, Lib.hid (by have := HA.out; omega), Lib.hid (fun h => absurd h.1 (by omega)), Lib.hid (fun h => absurd h (Nat.lt_irrefl _)), HD, Lib.hid (Only.refl g w)⟩
  case round =>
    clear HD
    obtain ⟨i, j, c, d, rfl, rfl, HI, HL, HR, HD, HO⟩ := hrel
    by_cases hij : i < j
    · have hijz : (i : Int) < (j : Int) := by omega
      have hjb : j ≤ 1000000 := by have := HI.out; have := HA.out; omega
      have hs : IntKind.i64.wrap ((i : Int) + (j : Int)) = ((i + j : Nat) : Int) := by
        rw [show (i : Int) + (j : Int) = ((i + j : Nat) : Int) by omega]
        exact IntWalk.i64_in _ (by omega)
      go_upto_region 17 with fail
      obtain ⟨q, hq⟩ : ∃ q : Nat, q = (i + j) / 2 := ⟨_, rfl⟩
      have hqi : ((i : Int) + (j : Int)) / 2 = (q : Int) := by omega
      obtain ⟨e, he⟩ : ∃ e, q = a + e := ⟨q - a, by have := HI.out; omega⟩
      have hed : c ≤ e ∧ e < d := by have := HI.out; omega
      have heX : e < X.length := by have := HI.out; omega
      have HE := Lib.hid (And.intro he hed)
      rw [hqi]
      have hDx := HD.out
      rw [show P ++ X ++ [y] ++ S = P ++ X ++ ([y] ++ S) by simp, at_mid P X ([y] ++ S) e heX] at hDx
      have hDy := HD.out
      rw [show P ++ X ++ [y] ++ S = (P ++ X) ++ y :: S by simp] at hDy
      obtain ⟨Xe, hXe⟩ : ∃ u, X[e] = u := ⟨_, rfl⟩
      rw [hXe] at hDx
      have gx : goodE Xe.2 := HG.out Xe (List.mem_cons_of_mem _ (hXe ▸ List.getElem_mem heX))
      have gy : goodE y.2 := HG.out y List.mem_cons_self
      have hqA : q = (P ++ X.take e).length := by have := HA.out; simp; omega
      have hmA : m = (P ++ X).length := by have := HA.out; simp; omega
      obtain ⟨xt, x0, x1⟩ := Xe
      obtain ⟨yt, y0, y1⟩ := y
      have hcy := fun n' os' => (hDy.grown n' os').at hmA
      have hcx := fun n' os' => (hDx.grown n' os').at hqA
      have hmN : m < N := (hcy 0 #[]).1
      have hqN : q < N := (hcx 0 #[]).1
      have c0 := fun n' os' => (hcy n' os').2.1
      have c1 := fun n' os' => (hcy n' os').2.2
      have d0 := fun n' os' => (hcx n' os').2.1
      have d1 := fun n' os' => (hcx n' os').2.2
      dsimp only [k0, k1] at c0 c1 d0 d1
      have hcg := fun n' os' => cmp_any _ _ gy gx (grow (wr.drewN n') os')
      unfold aggE at hcg
      dsimp only [k0, k1] at hcg
      have HCG := Lib.hid hcg
      have HXe := Lib.hid hXe
      have jz : (q : Int) < (N : Int) := by omega
      have jz1 : (m : Int) < (N : Int) := by omega
      clear hcy hcx hDy hDx hqA hmA gy gx hcg hXe hq he
      go_quiet_grown (first | (go_at_call 44; refine Calls.grown_of (HCG.out _ _)))
      have HGr := Lib.hid (And.intro (HD.out.grown nq osq) (HO.out.grown2 nq osq))
      clear c0 c1 d0 d1 HD
      dsimp only
      generalize grow (wr.drewN nq) osq = w2 at *
      by_cases hlt : y0 - x0 < 0
      · have hhigh := Lib.hid (show ∀ h : e < X.length, keyE (y0, y1) < keyE (X[e]'h).2 from fun h => by
          rw [HXe.out]
          show y0 < x0
          omega)
        have HI2 := Lib.hid (show i = a + c ∧ q = a + e ∧ c ≤ e ∧ e ≤ X.length by have := HE.out; have := HI.out; omega)
        have hms : q - i < j - i := by have := HE.out; have := HI.out; omega
        have hbt : decide (y0 - x0 < 0) = true := decide_eq_true hlt
        rw [hbt]
        go_wp2_with fail
        exact ⟨⟨i, q, c, e, rfl, rfl, HI2, HL, hhigh, Lib.hid HGr.out.1, Lib.hid HGr.out.2⟩, by simp [intOf]; omega⟩
      · have hlow := Lib.hid (show ∀ h : 0 < e + 1 ∧ e + 1 - 1 < X.length, ¬ keyE (y0, y1) < keyE (X[e + 1 - 1]'h.2).2 from fun h => by
          show ¬ _ < keyE (X[e]'heX).2
          rw [HXe.out]
          show ¬ y0 < x0
          omega)
        have HI2 := Lib.hid (show q + 1 = a + (e + 1) ∧ j = a + d ∧ e + 1 ≤ d ∧ d ≤ X.length by have := HE.out; have := HI.out; omega)
        have hms : j - (q + 1) < j - i := by have := HE.out; have := HI.out; omega
        have hbt : decide (y0 - x0 < 0) = false := decide_eq_false hlt
        rw [hbt]
        go_wp2_with fail
        exact ⟨⟨q + 1, j, e + 1, d, by simp, rfl, HI2, hlow, HR, Lib.hid HGr.out.1, Lib.hid HGr.out.2⟩, by simp [intOf]; omega⟩
    · have hcd : c = d := by have := HI.out; omega
      subst hcd
      have hcX : c ≤ X.length := HI.out.2.2.2
      have hpf := put_last (key := keyE) (x := y) hX hcX ht (fun a => HL.out ⟨a, by omega⟩) HR.out
      have HZ := Lib.hid hpf
      have hnlt : ¬ (i : Int) < (j : Int) := by omega
      clear hpf
      go_wp2_with fail
      go_loopw [17] (fun s17 wx => ∃ (k f : Nat), s17 = .int .i64 (k : Int) ∧ Hid (k = a + f ∧ c ≤ f ∧ f ≤ X.length) ∧ Hid (Dat 49 wx g N cap (P ++ (X.take f ++ y :: X.drop f) ++ S)) ∧ Hid (Only g w wx)) (fun s17 _ => (intOf s17).toNat)
      case atStart => exact ⟨m, X.length, rfl, Lib.hid (by have := HA.out; omega), Lib.hid (by rw [List.take_length, List.drop_length]; simpa using HD.out), HO⟩
      case round =>
        obtain ⟨k, f, rfl, HK, HDx, HOx⟩ := hrel
        by_cases hfc : c < f
        · obtain ⟨f', rfl⟩ : ∃ f', f = f' + 1 := ⟨f - 1, by omega⟩
          obtain ⟨A, ⟨ut, u0, u1⟩, B, h1, h2, hA⟩ := bub_step P X S y f' (by have := HK.out; omega)
          obtain ⟨yt, y0, y1⟩ := y
          obtain ⟨kp, rfl⟩ : ∃ kp, k = kp + 1 := ⟨k - 1, by have := HK.out; omega⟩
          have hkA : kp = A.length := by have := HK.out; have := HA.out; omega
          have hD1 := HDx.out
          rw [h2] at hD1
          have HSw := Lib.hid (hD1.swap2 hkA (j := kp + 1) (by simp; omega))
          rw [← h1] at HSw
          obtain ⟨l1, d0, d1⟩ := hD1.at hkA
          have hD2 := (show Dat 49 wr g N cap ((A ++ [(ut, u0, u1)]) ++ (yt, y0, y1) :: B) by simpa using hD1)
          obtain ⟨l2, z0, z1⟩ := hD2.at (i := kp + 1) (by simp; omega)
          have hz := hD1.fz
          have HO2 := Lib.hid ((HOx.out.trans (putE_only _ g (kp + 1) (u0, u1))).trans (putE_only _ g kp (y0, y1)))
          unfold putE at HSw HO2
          dsimp only [k0, k1] at d0 d1 z0 z1 HSw HO2
          have hki : (i : Int) < (kp : Int) + 1 := by have := HK.out; have := HI.out; omega
          have hwp : IntKind.i64.wrap (kp : Int) = (kp : Int) := IntWalk.i64_in _ (by omega)
          have jz : (kp : Int) + 1 < (N : Int) := by omega
          have jz1 : (kp : Int) < (N : Int) := by omega
          have p0 : (0 : Int) ≤ (kp : Int) + 1 := by omega
          have e0 : ((kp : Int) + 1).toNat = kp + 1 := by omega
          have HK2 := Lib.hid (show kp = a + f' ∧ c ≤ f' ∧ f' ≤ X.length by have := HK.out; omega)
          clear h1 h2 hA hkA hD1 hD2
          go_wp2_with fail
          go_region_law (fail)
          all_goals
            go_wp2_with fail
            exact ⟨⟨kp, f', rfl, HK2, Lib.hid HSw.out.drew, Lib.hid (HO2.out.drewN 1)⟩, by simp [intOf]⟩
        · have hfe : f = c := by have := HK.out; omega
          subst hfe
          have hki : ¬ (i : Int) < (k : Int) := by have := HK.out; have := HI.out; omega
          have HF := Lib.hid (And.intro HDx.out HOx.out)
          go_wp2_with fail
          refine bodyPost_ret (results_none rfl _ _ _) rfl ?_
          exact ⟨rfl, ⟨_, HZ.out.1, HZ.out.2, by simpa using HF.out.1⟩, HF.out.2⟩
end Go.Proofs.YtlhaidibcocooaaGreatDoor

namespace Go.Proofs.YtlhaidibcocooaaGreatDoor
open Go.RowKit Go.Sort

/-- ranges are merged -/
def MergedE (g N cap : Nat) (P X Y S : List (Nat × EV)) (w : World) : Prop := ∃ Z : List (Nat × EV), Z.Perm (X ++ Y) ∧ Srt keyE Z ∧ Dat 49 w g N cap (P ++ Z ++ S)
/-- the contract of symMerge for ranges that have together less than L elements -/
def SymC (g N cap L : Nat) : Prop := ∀ (P X Y S : List (Nat × EV)) (a m b : Nat) (w : World), X.length + Y.length < L → Dat 49 w g N cap (P ++ X ++ Y ++ S) → a = P.length → m = P.length + X.length → b = P.length + X.length + Y.length → 0 < X.length → 0 < Y.length → Srt keyE X → Srt keyE Y → Tags X Y → (∀ p ∈ X, goodE p.2) → (∀ p ∈ Y, goodE p.2) →
    Calls Tryz.prog 109 #[.slice (some ⟨g, 0, none⟩) N cap, .int .i64 (a : Int), .int .i64 (m : Int), .int .i64 (b : Int), .func (.func 44) #[] #[]] w fun e w' => e = .returned (.tuple #[]) ∧ MergedE g N cap P X Y S w' ∧ Only g w w'
theorem exit_facts (g N cap : Nat) (P X Y S : List (Nat × EV)) {a m b u v k d n s s0 r0 : Nat} (IH : SymC g N cap (X.length + Y.length))
    (HA : a = P.length ∧ m = a + u ∧ b = m + v ∧ X.length = u ∧ Y.length = v ∧ k = (u + v) / 2 ∧ 1 < u ∧ 1 < v ∧ d = a + k ∧ n = d + m ∧ b ≤ N ∧ N ≤ 1000000)
    (hX : Srt keyE X) (hY : Srt keyE Y) (ht : Tags X Y) (hgx : ∀ p ∈ X, goodE p.2) (hgy : ∀ p ∈ Y, goodE p.2)
    (hsr : (s0 = 0 ∨ k = v + s0) ∧ (r0 = k ∨ r0 = u) ∧ s0 ≤ r0 ∧ r0 ≤ k ∧ r0 ≤ u ∧ k ≤ v + s0) (hs : s0 ≤ s ∧ s ≤ r0)
    (HL : ∀ q : s0 < s ∧ s - 1 < X.length ∧ k - s < Y.length, ¬ keyE (Y[k - s]'q.2.2).2 < keyE (X[s - 1]'q.2.1).2)
    (HR : ∀ q : s < r0 ∧ s < X.length ∧ k - 1 - s < Y.length, keyE (Y[k - 1 - s]'q.2.2).2 < keyE (X[s]'q.2.1).2) :
    ∃ (i f : Nat) (A1 A2 : World → Prop), i = a + s ∧ IntKind.i64.wrap ((n : Int) - (i : Int)) = (f : Int) ∧
      (i < m → m < f → ∀ w, Dat 49 w g N cap (P ++ X ++ Y ++ S) → Calls Tryz.prog 150 #[.slice (some ⟨g, 0, none⟩) N cap, .int .i64 (i : Int), .int .i64 (m : Int), .int .i64 (f : Int), .func (.func 44) #[] #[]] w fun e w' => e = .returned (.tuple #[]) ∧ A1 w' ∧ Only g w w') ∧
      (¬ (i < m ∧ m < f) → ∀ w, Dat 49 w g N cap (P ++ X ++ Y ++ S) → A1 w) ∧
      (a < i → i < d → ∀ w, A1 w → Calls Tryz.prog 109 #[.slice (some ⟨g, 0, none⟩) N cap, .int .i64 (a : Int), .int .i64 (i : Int), .int .i64 (d : Int), .func (.func 44) #[] #[]] w fun e w' => e = .returned (.tuple #[]) ∧ A2 w' ∧ Only g w w') ∧
      (¬ (a < i ∧ i < d) → ∀ w, A1 w → A2 w) ∧
      (d < f → f < b → ∀ w, A2 w → Calls Tryz.prog 109 #[.slice (some ⟨g, 0, none⟩) N cap, .int .i64 (d : Int), .int .i64 (f : Int), .int .i64 (b : Int), .func (.func 44) #[] #[]] w fun e w' => e = .returned (.tuple #[]) ∧ MergedE g N cap P X Y S w' ∧ Only g w w') ∧
      (¬ (d < f ∧ f < b) → ∀ w, A2 w → MergedE g N cap P X Y S w) := by
  obtain ⟨h1, h2, h3, h4, h5, h6, h7, h8, h9, h10, h11, h12⟩ := HA
  obtain ⟨X1, X2, Y1, Y2, rfl, rfl, hs1, hk1, ⟨hX1, hY1, ht1⟩, ⟨hX2, hY2, ht2⟩, hm⟩ := search_end hX hY ht h4 h5 hsr hs HL HR
  simp only [List.length_append] at h4 h5 IH
  have gx1 : ∀ p ∈ X1, goodE p.2 := fun p hp => hgx p (List.mem_append_left _ hp)
  have gx2 : ∀ p ∈ X2, goodE p.2 := fun p hp => hgx p (List.mem_append_right _ hp)
  have gy1 : ∀ p ∈ Y1, goodE p.2 := fun p hp => hgy p (List.mem_append_left _ hp)
  have gy2 : ∀ p ∈ Y2, goodE p.2 := fun p hp => hgy p (List.mem_append_right _ hp)
  clear HL HR hX hY ht hgx hgy
  refine ⟨a + s, m + Y1.length, fun w => Dat 49 w g N cap (P ++ X1 ++ Y1 ++ (X2 ++ Y2 ++ S)), fun w => MergedE g N cap P X1 Y1 (X2 ++ Y2 ++ S) w, rfl, ?_, ?_, ?_, ?_, ?_, ?_, ?_⟩
  · rw [show (n : Int) - ((a + s : Nat) : Int) = ((m + Y1.length : Nat) : Int) by omega]
    exact IntWalk.i64_in _ (by omega)
  · intro c1 c2 w hd
    refine (rotate_any g N cap (P ++ X1) X2 Y1 (Y2 ++ S) (a + s) m (m + Y1.length) _ w (by simpa using hd) (by simp; omega) (by simp; omega) (by simp; omega) (by omega) (by omega) h12).mono ?_
    rintro e w' ⟨he, hd', ho⟩
    exact ⟨he, by simpa using hd', ho⟩
  · intro c w hd
    have he : X2 = [] ∨ Y1 = [] := by
      rw [← List.length_eq_zero_iff, ← List.length_eq_zero_iff]
      omega
    have := no_turn he (P ++ X1) (Y2 ++ S)
    simp only [List.append_assoc] at this hd ⊢
    rw [← this]
    exact hd
  · intro c1 c2 w hd
    exact IH P X1 Y1 (X2 ++ Y2 ++ S) a (a + s) d w (by omega) hd h1 (by omega) (by omega) (by omega) (by omega) hX1 hY1 ht1 gx1 gy1
  · intro c w hd
    have he : X1 = [] ∨ Y1 = [] := by
      rw [← List.length_eq_zero_iff, ← List.length_eq_zero_iff]
      omega
    exact ⟨X1 ++ Y1, List.Perm.refl _, part_done hX1 hY1 he, by simpa using hd⟩
  · rintro c1 c2 w ⟨Z1, hp1, hs1', hd1⟩
    have hl := hp1.length_eq
    simp only [List.length_append] at hl
    refine (IH (P ++ Z1) X2 Y2 S d (m + Y1.length) b w (by omega) (by simpa using hd1) (by simp; omega) (by simp; omega) (by simp; omega) (by omega) (by omega) hX2 hY2 ht2 gx2 gy2).mono ?_
    rintro e w' ⟨he, ⟨Z2, hp2, hs2, hd2⟩, ho⟩
    obtain ⟨hp, hsz⟩ := hm Z1 Z2 hp1 hs1' hp2 hs2
    exact ⟨he, ⟨Z1 ++ Z2, hp, hsz, by simpa using hd2⟩, ho⟩
  · rintro c w ⟨Z1, hp1, hs1', hd1⟩
    have hl := hp1.length_eq
    simp only [List.length_append] at hl
    have he : X2 = [] ∨ Y2 = [] := by
      rw [← List.length_eq_zero_iff, ← List.length_eq_zero_iff]
      omega
    obtain ⟨hp, hsz⟩ := hm Z1 (X2 ++ Y2) hp1 hs1' (List.Perm.refl _) (part_done hX2 hY2 he)
    exact ⟨Z1 ++ (X2 ++ Y2), hp, hsz, by simpa using hd1⟩
end Go.Proofs.YtlhaidibcocooaaGreatDoor

namespace Go.Proofs.YtlhaidibcocooaaGreatDoor
open Go.RowKit Go.Sort

set_option maxRecDepth 100000 in
set_option maxHeartbeats 6400000 in
theorem sym_mid (g N cap : Nat) (P X Y S : List (Nat × EV)) (a m b : Nat) (w : World) (h : Dat 49 w g N cap (P ++ X ++ Y ++ S)) (ha : a = P.length) (hm : m = P.length + X.length) (hb : b = P.length + X.length + Y.length) (hX1 : 1 < X.length) (hY1 : 1 < Y.length) (hX : Srt keyE X) (hY : Srt keyE Y) (ht : Tags X Y) (hgx : ∀ p ∈ X, goodE p.2) (hgy : ∀ p ∈ Y, goodE p.2) (hN : N ≤ 1000000) (IH : SymC g N cap (X.length + Y.length)) :
    Calls Tryz.prog 109 #[.slice (some ⟨g, 0, none⟩) N cap, .int .i64 (a : Int), .int .i64 (m : Int), .int .i64 (b : Int), .func (.func 44) #[] #[]] w fun e w' => e = .returned (.tuple #[]) ∧ MergedE g N cap P X Y S w' ∧ Only g w w' := by
  have mixed : Tryz.prog.follows .mixedOrders = true := by kernel_rfl
  have hNb : b ≤ N := by
    have := h.len
    simp at this
    omega
  obtain ⟨u, hu⟩ : ∃ u, X.length = u := ⟨_, rfl⟩
  obtain ⟨v, hv⟩ : ∃ v, Y.length = v := ⟨_, rfl⟩
  have e1 : IntKind.i64.wrap ((m : Int) - (a : Int)) = (u : Int) := by
    rw [show (m : Int) - (a : Int) = (u : Int) by omega]
    exact IntWalk.i64_in _ (by omega)
  have e2 : ((u : Int) == 1) = false := by rw [beq_eq_false_iff_ne]; omega
  have e3 : IntKind.i64.wrap ((b : Int) - (m : Int)) = (v : Int) := by
    rw [show (b : Int) - (m : Int) = (v : Int) by omega]
    exact IntWalk.i64_in _ (by omega)
  have e4 : ((v : Int) == 1) = false := by rw [beq_eq_false_iff_ne]; omega
  have HSM := Lib.hid (show IntKind.i64.wrap ((a : Int) + (b : Int)) = (a : Int) + (b : Int) from IntWalk.i64_in _ (by omega))
  obtain ⟨k, hk⟩ : ∃ k, k = (u + v) / 2 := ⟨_, rfl⟩
  obtain ⟨d, hd⟩ : ∃ d, d = a + k := ⟨_, rfl⟩
  obtain ⟨n, hn⟩ : ∃ n, n = d + m := ⟨_, rfl⟩
  have HMID : Hid (wrap64 (IntKind.u64.wrap ((a : Int) + (b : Int)) / 2) = (d : Int)) := by
    apply Lib.hid
    rw [show (a : Int) + (b : Int) = ((a + b : Nat) : Int) by omega]
    rw [IntWalk.u64_in _ (by omega), show (((a + b : Nat) : Int) / 2) = (d : Int) by omega]
    exact IntWalk.wrap64_in _ (by omega)
  have e5 : IntKind.i64.wrap ((d : Int) + (m : Int)) = (n : Int) := by
    rw [show (d : Int) + (m : Int) = (n : Int) by omega]
    exact IntWalk.i64_in _ (by omega)
  have e6 : IntKind.i64.wrap ((n : Int) - 1) = (n : Int) - 1 := IntWalk.i64_in _ (by omega)
  obtain ⟨s0, r0, hsr, hj1, hj2⟩ : ∃ s0 r0 : Nat, ((s0 = 0 ∨ k = v + s0) ∧ (r0 = k ∨ r0 = u) ∧ s0 ≤ r0 ∧ r0 ≤ k ∧ r0 ≤ u ∧ k ≤ v + s0) ∧ (d < m → IntKind.i64.wrap ((n : Int) - (b : Int)) = ((a + s0 : Nat) : Int) ∧ d = a + r0) ∧ (¬ d < m → s0 = 0 ∧ m = a + r0) := by
    by_cases hdm : d < m
    · refine ⟨k - v, k, by omega, fun _ => ⟨?_, hd⟩, fun h => absurd hdm h⟩
      rw [show (n : Int) - (b : Int) = ((a + (k - v) : Nat) : Int) by omega]
      exact IntWalk.i64_in _ (by omega)
    · exact ⟨0, u, by omega, fun h => absurd h hdm, fun _ => by omega⟩
  have HA := Lib.hid (show a = P.length ∧ m = a + u ∧ b = m + v ∧ X.length = u ∧ Y.length = v ∧ k = (u + v) / 2 ∧ 1 < u ∧ 1 < v ∧ d = a + k ∧ n = d + m ∧ b ≤ N ∧ N ≤ 1000000 from ⟨ha, by omega, by omega, hu, hv, hk, by omega, by omega, hd, hn, hNb, hN⟩)
  have HSR := Lib.hid hsr
  have HD := Lib.hid h
  have HGX := Lib.hid hgx
  have HGY := Lib.hid hgy
  have HIH := Lib.hid IH
  clear IH h ha hm hb hgx hgy hu hv hk hX1 hY1 hsr hd hn
  go_enter Tryz.func109, Tryz.ntmps109
  have hmid := HMID.out
  have hsm := HSM.out
  go_upto_if 140 with fail
  rw [hmid]
  go_cut [20, 21] from 140 to 146 (fun s20 s21 wy => s20 = .int .i64 ((a + s0 : Nat) : Int) ∧ s21 = .int .i64 ((a + r0 : Nat) : Int) ∧ wy = w)
  case first =>
    by_cases hdm : d < m
    · obtain ⟨e7, e8⟩ := hj1 hdm
      have hdz : (d : Int) < (m : Int) := Int.ofNat_lt.2 hdm
      clear hj1 hj2
      replace e8 := Lib.hid e8
      go_wp2_with fail
      go_meet
      exact ⟨by rfl, by rw [e8.out], rfl⟩
    · obtain ⟨e7, e8⟩ := hj2 hdm
      have hdz : ¬ (d : Int) < (m : Int) := fun h => hdm (Int.ofNat_lt.1 h)
      clear hj1 hj2
      replace e8 := Lib.hid e8
      replace e7 := Lib.hid e7
      go_wp2_with fail
      go_meet
      exact ⟨by rw [e7.out]; rfl, by rw [e8.out], rfl⟩
  case rest =>
  obtain ⟨rfl, rfl, hwc⟩ := hcut
  replace hwc := hwc.symm
  subst hwc
  clear hj1 hj2
  go_wp2_with fail
  go_loopw [20, 21] (fun s20 s21 wr => ∃ (s r : Nat), s20 = .int .i64 ((a + s : Nat) : Int) ∧ s21 = .int .i64 ((a + r : Nat) : Int) ∧ Hid (s0 ≤ s ∧ s ≤ r ∧ r ≤ r0) ∧ Hid (∀ q : s0 < s ∧ s - 1 < X.length ∧ k - s < Y.length, ¬ keyE (Y[k - s]'q.2.2).2 < keyE (X[s - 1]'q.2.1).2) ∧ Hid (∀ q : r < r0 ∧ r < X.length ∧ k - 1 - r < Y.length, keyE (Y[k - 1 - r]'q.2.2).2 < keyE (X[r]'q.2.1).2) ∧ Hid (Dat 49 wr g N cap (P ++ X ++ Y ++ S)) ∧ Hid (Only g w wr)) (fun s20 s21 _ => (intOf s21).toNat - (intOf s20).toNat)
  case atStart => exact ⟨s0, r0, rfl, rfl, Lib.hid (by have := HSR.out; omega), Lib.hid (fun q => absurd q.1 (by omega)), Lib.hid (fun q => absurd q.1 (by omega)), HD, Lib.hid (Only.refl g w)⟩
  case round =>
    clear HD
    obtain ⟨s, r, rfl, rfl, HI, HL, HR, HD, HO⟩ := hrel
    by_cases hij : s < r
    · have hijz : ((a + s : Nat) : Int) < ((a + r : Nat) : Int) := by omega
      have hjb : a + r ≤ 1000000 := by have := HI.out; have := HA.out; have := HSR.out; omega
      have hs : IntKind.i64.wrap (((a + s : Nat) : Int) + ((a + r : Nat) : Int)) = ((a + s + (a + r) : Nat) : Int) := by
        rw [show ((a + s : Nat) : Int) + ((a + r : Nat) : Int) = ((a + s + (a + r) : Nat) : Int) by omega]
        exact IntWalk.i64_in _ (by omega)
      clear hmid hsm
      generalize hi : a + s = i at *
      generalize hj : a + r = j at *
      go_upto_region 35 with fail
      obtain ⟨q, hq⟩ : ∃ q : Nat, q = (i + j) / 2 := ⟨_, rfl⟩
      have hqi : ((i : Int) + (j : Int)) / 2 = (q : Int) := by omega
      obtain ⟨e, he⟩ : ∃ e, q = a + e := ⟨q - a, by omega⟩
      have hed : s ≤ e ∧ e < r := by omega
      have heX : e < X.length := by have := HI.out; have := HSR.out; have := HA.out; omega
      obtain ⟨f, hf⟩ : ∃ f, f = k - 1 - e := ⟨_, rfl⟩
      have hfe : f + e + 1 = k := by have := HI.out; have := HSR.out; omega
      have hfY : f < Y.length := by have := HI.out; have := HSR.out; have := HA.out; omega
      obtain ⟨z, hz⟩ : ∃ z, z = m + f := ⟨_, rfl⟩
      have hp : IntKind.i64.wrap ((n : Int) - 1 - (q : Int)) = (z : Int) := by
        have := HA.out
        rw [show (n : Int) - 1 - (q : Int) = (z : Int) by omega]
        exact IntWalk.i64_in _ (by omega)
      rw [hqi]
      have hDx := HD.out
      rw [show P ++ X ++ Y ++ S = P ++ X ++ (Y ++ S) by simp, at_mid P X (Y ++ S) e heX] at hDx
      have hDy := HD.out
      rw [at_mid (P ++ X) Y S f hfY] at hDy
      obtain ⟨Xe, hXe⟩ : ∃ u, X[e] = u := ⟨_, rfl⟩
      obtain ⟨Yf, hYf⟩ : ∃ u, Y[f] = u := ⟨_, rfl⟩
      rw [hXe] at hDx
      rw [hYf] at hDy
      have gx : goodE Xe.2 := HGX.out Xe (hXe ▸ List.getElem_mem heX)
      have gy : goodE Yf.2 := HGY.out Yf (hYf ▸ List.getElem_mem hfY)
      have hqA : q = (P ++ X.take e).length := by have := HA.out; simp; omega
      have hmA : z = (P ++ X ++ Y.take f).length := by have := HA.out; simp; omega
      obtain ⟨xt, x0, x1⟩ := Xe
      obtain ⟨yt, y0, y1⟩ := Yf
      have hcy := fun n' os' => (hDy.grown n' os').at hmA
      have hcx := fun n' os' => (hDx.grown n' os').at hqA
      have hmN : z < N := (hcy 0 #[]).1
      have hqN : q < N := (hcx 0 #[]).1
      have c0 := fun n' os' => (hcy n' os').2.1
      have c1 := fun n' os' => (hcy n' os').2.2
      have d0 := fun n' os' => (hcx n' os').2.1
      have d1 := fun n' os' => (hcx n' os').2.2
      dsimp only [k0, k1] at c0 c1 d0 d1
      have hcg := fun n' os' => cmp_any _ _ gy gx (grow (wr.drewN n') os')
      unfold aggE at hcg
      dsimp only [k0, k1] at hcg
      have HCG := Lib.hid hcg
      have HE := Lib.hid (And.intro hXe (And.intro hYf (And.intro hed (And.intro hfe (And.intro hf (And.intro hi (And.intro hj he)))))))
      have jz : (q : Int) < (N : Int) := by omega
      have jz1 : (z : Int) < (N : Int) := by omega
      clear hcy hcx hDy hDx hqA hmA gy gx hcg hXe hYf hq he hf hz hed hfe hi hj
      go_quiet_grown (first | (go_at_call 44; refine Calls.grown_of (HCG.out _ _)))
      have HGr := Lib.hid (And.intro (HD.out.grown nq osq) (HO.out.grown2 nq osq))
      clear c0 c1 d0 d1 HD
      dsimp only
      generalize grow (wr.drewN nq) osq = w2 at *
      have hqe : q = a + e := HE.out.2.2.2.2.2.2.2
      have hfq : f = k - 1 - e := HE.out.2.2.2.2.1
      by_cases hlt : y0 - x0 < 0
      · have hhigh := Lib.hid (show ∀ p : e < r0 ∧ e < X.length ∧ k - 1 - e < Y.length, keyE (Y[k - 1 - e]'p.2.2).2 < keyE (X[e]'p.2.1).2 from fun p => by
          simp only [← hfq, HE.out.1, HE.out.2.1]
          show y0 < x0
          omega)
        have HI2 := Lib.hid (show s0 ≤ s ∧ s ≤ e ∧ e ≤ r0 by have := HE.out.2.2.1; have := HI.out; omega)
        have hms : q - i < j - i := by have := HE.out.2.2; have := HI.out; omega
        have hio := Lib.hid (HE.out.2.2.2.2.2.1)
        have hqo := Lib.hid hqe
        clear hqe hfq
        have hbt : decide (y0 - x0 < 0) = true := decide_eq_true hlt
        rw [hbt]
        go_wp2_with fail
        exact ⟨⟨s, e, by rw [hio.out], by rw [hqo.out], HI2, HL, hhigh, Lib.hid HGr.out.1, Lib.hid HGr.out.2⟩, by simp [intOf]; omega⟩
      · have hlow := Lib.hid (show ∀ p : s0 < e + 1 ∧ e + 1 - 1 < X.length ∧ k - (e + 1) < Y.length, ¬ keyE (Y[k - (e + 1)]'p.2.2).2 < keyE (X[e + 1 - 1]'p.2.1).2 from fun p => by
          have hf2 : k - (e + 1) = f := by omega
          simp only [hf2, Nat.add_sub_cancel, HE.out.1, HE.out.2.1]
          show ¬ y0 < x0
          omega)
        have HI2 := Lib.hid (show s0 ≤ e + 1 ∧ e + 1 ≤ r ∧ r ≤ r0 by have := HE.out.2.2.1; have := HI.out; omega)
        have hms : j - (q + 1) < j - i := by have := HE.out.2.2; have := HI.out; omega
        have hjo := Lib.hid (HE.out.2.2.2.2.2.2.1)
        have hqo := Lib.hid (show q + 1 = a + (e + 1) by omega)
        clear hqe hfq
        have hbt : decide (y0 - x0 < 0) = false := decide_eq_false hlt
        rw [hbt]
        go_wp2_with fail
        exact ⟨⟨e + 1, r, by rw [← hqo.out]; simp, by rw [hjo.out], HI2, hlow, HR, Lib.hid HGr.out.1, Lib.hid HGr.out.2⟩, by simp [intOf]; omega⟩
    · obtain rfl : s = r := Nat.le_antisymm HI.out.2.1 (Nat.le_of_not_lt hij)
      obtain ⟨i, f, A1, A2, hi, hf, r1, r2, c1, c2, d1, d2⟩ := exit_facts g N cap P X Y S HIH.out HA.out hX hY ht HGX.out HGY.out HSR.out ⟨HI.out.1, HI.out.2.2⟩ HL.out HR.out
      have R1 := Lib.hid r1
      have R2 := Lib.hid r2
      have C1 := Lib.hid c1
      have C2 := Lib.hid c2
      have D1 := Lib.hid d1
      have D2 := Lib.hid d2
      clear r1 r2 c1 c2 d1 d2
      rw [← hi]
      have hnlt : ¬ (i : Int) < (i : Int) := Int.lt_irrefl _
      clear hi hij HI HL HR
      go_upto_region 39 with fail
      go_cut [185] from 178 to 185 (fun sl wy => ∃ bb : Bool, sl = .bool bb ∧ Hid (bb = true ↔ i < m ∧ m < f) ∧ wy = wr)
      case first =>
        by_cases c1 : (i : Int) < (m : Int)
        · by_cases c2 : (m : Int) < (f : Int)
          · go_wp2_with fail
            go_meet
            exact ⟨true, rfl, Lib.hid ⟨fun _ => ⟨Int.ofNat_lt.1 c1, Int.ofNat_lt.1 c2⟩, fun _ => rfl⟩, rfl⟩
          · go_wp2_with fail
            go_meet
            exact ⟨false, rfl, Lib.hid ⟨fun h => (by cases h), fun h => absurd (Int.ofNat_lt.2 h.2) (Int.not_lt.2 c2)⟩, rfl⟩
        · go_wp2_with fail
          go_meet
          exact ⟨false, rfl, Lib.hid ⟨fun h => (by cases h), fun h => absurd (Int.ofNat_lt.2 h.1) (Int.not_lt.2 c1)⟩, rfl⟩
      case rest =>
      obtain ⟨bb, rfl, HB39, hwc⟩ := hcut
      replace hwc := hwc.symm
      subst hwc
      go_upto_if 185 with fail
      go_cut [24] from 186 to 191 (fun s24 wy => s24 = .int .i64 (f : Int) ∧ Hid (A1 wy) ∧ Hid (Only g w wy))
      case first =>
        cases bb with
        | true =>
          have HC39 := Lib.hid (R1.out (HB39.out.1 rfl).1 (HB39.out.1 rfl).2 _ HD.out)
          go_wp2_with fail
          refine HC39.out.mono ?_
          rintro e w2 ⟨rfl, ha2, ho2⟩
          have HA2 := Lib.hid ha2
          have HO2 := Lib.hid (HO.out.trans ho2)
          clear ha2 ho2
          go_wp2_with fail
          go_meet
          exact ⟨rfl, HA2, HO2⟩
        | false =>
          have HA2 := Lib.hid (R2.out (fun h => by have := HB39.out.2 h; cases this) _ HD.out)
          go_wp2_with fail
          go_meet
          exact ⟨rfl, HA2, HO⟩
      case rest =>
      obtain ⟨rfl, HA39, HO⟩ := hcut
      go_upto_region 41 with fail
      go_cut [199] from 192 to 199 (fun sl wy => ∃ bb : Bool, sl = .bool bb ∧ Hid (bb = true ↔ a < i ∧ i < d) ∧ wy = wc)
      case first =>
        by_cases c1 : (a : Int) < (i : Int)
        · by_cases c2 : (i : Int) < (d : Int)
          · go_wp2_with fail
            go_meet
            exact ⟨true, rfl, Lib.hid ⟨fun _ => ⟨Int.ofNat_lt.1 c1, Int.ofNat_lt.1 c2⟩, fun _ => rfl⟩, rfl⟩
          · go_wp2_with fail
            go_meet
            exact ⟨false, rfl, Lib.hid ⟨fun h => (by cases h), fun h => absurd (Int.ofNat_lt.2 h.2) (Int.not_lt.2 c2)⟩, rfl⟩
        · go_wp2_with fail
          go_meet
          exact ⟨false, rfl, Lib.hid ⟨fun h => (by cases h), fun h => absurd (Int.ofNat_lt.2 h.1) (Int.not_lt.2 c1)⟩, rfl⟩
      case rest =>
      obtain ⟨bb, rfl, HB41, hwc⟩ := hcut
      replace hwc := hwc.symm
      subst hwc
      go_upto_if 199 with fail
      go_cut [24] from 200 to 205 (fun s24 wy => s24 = .int .i64 (f : Int) ∧ Hid (A2 wy) ∧ Hid (Only g w wy))
      case first =>
        cases bb with
        | true =>
          have HC41 := Lib.hid (C1.out (HB41.out.1 rfl).1 (HB41.out.1 rfl).2 _ HA39.out)
          go_wp2_with fail
          refine HC41.out.mono ?_
          rintro e w2 ⟨rfl, ha2, ho2⟩
          have HA2 := Lib.hid ha2
          have HO2 := Lib.hid (HO.out.trans ho2)
          clear ha2 ho2
          go_wp2_with fail
          go_meet
          exact ⟨rfl, HA2, HO2⟩
        | false =>
          have HA2 := Lib.hid (C2.out (fun h => by have := HB41.out.2 h; cases this) _ HA39.out)
          go_wp2_with fail
          go_meet
          exact ⟨rfl, HA2, HO⟩
      case rest =>
      obtain ⟨rfl, HA41, HO⟩ := hcut
      go_upto_region 43 with fail
      go_cut [213] from 206 to 213 (fun sl wy => ∃ bb : Bool, sl = .bool bb ∧ Hid (bb = true ↔ d < f ∧ f < b) ∧ wy = wc)
      case first =>
        by_cases c1 : (d : Int) < (f : Int)
        · by_cases c2 : (f : Int) < (b : Int)
          · go_wp2_with fail
            go_meet
            exact ⟨true, rfl, Lib.hid ⟨fun _ => ⟨Int.ofNat_lt.1 c1, Int.ofNat_lt.1 c2⟩, fun _ => rfl⟩, rfl⟩
          · go_wp2_with fail
            go_meet
            exact ⟨false, rfl, Lib.hid ⟨fun h => (by cases h), fun h => absurd (Int.ofNat_lt.2 h.2) (Int.not_lt.2 c2)⟩, rfl⟩
        · go_wp2_with fail
          go_meet
          exact ⟨false, rfl, Lib.hid ⟨fun h => (by cases h), fun h => absurd (Int.ofNat_lt.2 h.1) (Int.not_lt.2 c1)⟩, rfl⟩
      case rest =>
      obtain ⟨bb, rfl, HB43, hwc⟩ := hcut
      replace hwc := hwc.symm
      subst hwc
      cases bb with
      | true =>
        have HC43 := Lib.hid (D1.out (HB43.out.1 rfl).1 (HB43.out.1 rfl).2 _ HA41.out)
        go_wp2_with fail
        refine HC43.out.mono ?_
        rintro e w2 ⟨rfl, ha2, ho2⟩
        have HA2 := Lib.hid ha2
        have HO2 := Lib.hid (HO.out.trans ho2)
        clear ha2 ho2
        go_wp2_with fail
        go_end0
        exact ⟨rfl, HA2.out, HO2.out⟩
      | false =>
        have HA2 := Lib.hid (D2.out (fun h => by have := HB43.out.2 h; cases this) _ HA41.out)
        go_wp2_with fail
        go_end0
        exact ⟨rfl, HA2.out, HO.out⟩
end Go.Proofs.YtlhaidibcocooaaGreatDoor

namespace Go.Proofs.YtlhaidibcocooaaGreatDoor
open Go.RowKit Go.Sort

theorem sym_any (g N cap : Nat) (hN : N ≤ 1000000) : ∀ L, SymC g N cap L
  | 0 => fun P X Y S a m b w h => absurd h (Nat.not_lt_zero _)
  | L + 1 => by
    have ih := sym_any g N cap hN L
    intro P X Y S a m b w hl hd ha hm hb hX0 hY0 hX hY ht hgx hgy
    by_cases h1 : X.length = 1
    · obtain ⟨x, rfl⟩ := List.length_eq_one_iff.1 h1
      refine first_any g N cap P Y S x a m b w hd ha (by simpa using hm) (by simpa using hb) hY (fun y hy => ht x (by simp) y hy) (fun p hp => ?_) hN
      rcases List.mem_cons.1 hp with e | h
      · exact hgx p (by simp [e])
      · exact hgy p h
    · by_cases h2 : Y.length = 1
      · obtain ⟨y, rfl⟩ := List.length_eq_one_iff.1 h2
        refine last_any g N cap P X S y a m b w hd ha hm (by simpa using hb) h1 hX (fun x hx => ht x hx y (by simp)) (fun p hp => ?_) hN
        rcases List.mem_cons.1 hp with e | h
        · exact hgy p (by simp [e])
        · exact hgx p h
      · exact sym_mid g N cap P X Y S a m b w hd ha hm hb (by omega) (by omega) hX hY ht hgx hgy hN (fun P' X' Y' S' a' m' b' w' hl' => ih P' X' Y' S' a' m' b' w' (by omega))
set_option maxRecDepth 100000 in
set_option maxHeartbeats 1600000 in
theorem ins_none (g N cap a : Nat) (w : World) (hN : N ≤ 1000000) (ha : a ≤ N) :
    Calls Tryz.prog 108 #[.slice (some ⟨g, 0, none⟩) N cap, .int .i64 (a : Int), .int .i64 (a : Int), .func (.func 44) #[] #[]] w fun e w' => e = .returned (.tuple #[]) ∧ w = w' := by
  have e1 : IntKind.i64.wrap ((a : Int) + 1) = (a : Int) + 1 := IntWalk.i64_in _ (by omega)
  have e2 : ¬ (a : Int) + 1 < (a : Int) := by omega
  go_enter Tryz.func108, Tryz.ntmps108
  go_wp2_with fail
  go_loopw [8] (fun s8 wr => s8 = .int .i64 ((a : Int) + 1) ∧ wr = w) (fun _ _ => 0)
  case atStart => exact ⟨rfl, rfl⟩
  case round =>
    obtain ⟨rfl, rfl⟩ := hrel
    go_wp2_with fail
    go_end0
    exact ⟨rfl, rfl⟩
/-- the last insertion: the rest of the list, or nothing -/
theorem ins_rest (g N cap : Nat) (L : List (Nat × EV)) (D : List (List (Nat × EV))) (a : Nat) (w : World) (hl : L.length = N) (ha : a = D.flatten.length) (h1 : a ≤ N) (h2 : N < a + 20) (h : FirstS keyE L 20 D) (hd : Dat 49 w g N cap (D.flatten ++ L.drop D.flatten.length)) (hr : Rise L) (hg : ∀ p ∈ L, goodE p.2) (hN : N ≤ 1000000) :
    Calls Tryz.prog 108 #[.slice (some ⟨g, 0, none⟩) N cap, .int .i64 (a : Int), .int .i64 (N : Int), .func (.func 44) #[] #[]] w fun e w' => e = .returned (.tuple #[]) ∧ (∃ T, PassS keyE L 20 [] T ∧ Dat 49 w' g N cap T.flatten) ∧ Only g w w' := by
  by_cases he : a = N
  · rw [show (N : Int) = (a : Int) by omega]
    refine (ins_none g N cap a w hN h1).mono ?_
    rintro e w' ⟨rfl, rfl⟩
    refine ⟨rfl, ⟨D, h.none (by decide) (by omega), ?_⟩, Only.refl g w⟩
    rw [List.drop_of_length_le (by omega), List.append_nil] at hd
    exact hd
  · have hr' : Rise (L.drop D.flatten.length) := hr.sublist (List.drop_sublist _ _)
    refine (ins_any g N cap D.flatten (L.drop D.flatten.length) [] a N w (by simpa using hd) ha (by rw [List.length_drop]; omega) (by rw [List.length_drop]; omega) hr' (fun p hp => hg p (List.mem_of_mem_drop hp)) hN).mono ?_
    rintro e w' ⟨rfl, ⟨Z, hp, hs, hd'⟩, ho⟩
    refine ⟨rfl, ⟨D ++ [Z], h.last hr (by decide) (by omega) hp hs ?_, by simpa using hd'⟩, ho⟩
    rw [hp.length_eq, List.length_drop]
    omega
/-- a block more is sorted -/
theorem ins_more (g N cap : Nat) (L : List (Nat × EV)) (D : List (List (Nat × EV))) (a b : Nat) (w : World) (hl : L.length = N) (ha : a = D.flatten.length) (hb : b = a + 20) (h1 : b ≤ N) (h : FirstS keyE L 20 D) (hd : Dat 49 w g N cap (D.flatten ++ L.drop D.flatten.length)) (hr : Rise L) (hg : ∀ p ∈ L, goodE p.2) (hN : N ≤ 1000000) :
    Calls Tryz.prog 108 #[.slice (some ⟨g, 0, none⟩) N cap, .int .i64 (a : Int), .int .i64 (b : Int), .func (.func 44) #[] #[]] w fun e w' => e = .returned (.tuple #[]) ∧ (∃ D', b = D'.flatten.length ∧ FirstS keyE L 20 D' ∧ Dat 49 w' g N cap (D'.flatten ++ L.drop D'.flatten.length)) ∧ Only g w w' := by
  have hs : L.drop D.flatten.length = (L.drop D.flatten.length).take 20 ++ L.drop (D.flatten.length + 20) := by
    rw [← List.drop_drop, List.take_append_drop]
  have hlt : ((L.drop D.flatten.length).take 20).length = 20 := by
    rw [List.length_take, List.length_drop]
    omega
  refine (ins_any g N cap D.flatten ((L.drop D.flatten.length).take 20) (L.drop (D.flatten.length + 20)) a b w (by rw [List.append_assoc, ← hs]; exact hd) ha (by omega) (by omega) (hr.part _ _) (fun p hp => hg p (List.mem_of_mem_drop (List.mem_of_mem_take hp))) hN).mono ?_
  rintro e w' ⟨rfl, ⟨Z, hp, hs, hd'⟩, ho⟩
  have hz : Z.length = 20 := by rw [hp.length_eq, hlt]
  have hf : (D ++ [Z]).flatten.length = D.flatten.length + 20 := by rw [flat_snoc, List.length_append, hz]
  refine ⟨rfl, ⟨D ++ [Z], by omega, h.step hr (by omega) hp hs, ?_⟩, ho⟩
  rw [hf, flat_snoc]
  exact hd'
/-- two blocks are merged -/
theorem merge_two (g N cap bs : Nat) (L : List (Nat × EV)) (D T : List (List (Nat × EV))) (a m b : Nat) (w : World) (hl : L.length = N) (hbs : 0 < bs) (ha : a = D.flatten.length) (hm : m = a + bs) (hb : b = a + 2 * bs) (h1 : b ≤ N) (h : PassS keyE L bs D T) (hd : Dat 49 w g N cap (D ++ T).flatten) (hg : ∀ p ∈ L, goodE p.2) (hN : N ≤ 1000000) :
    Calls Tryz.prog 109 #[.slice (some ⟨g, 0, none⟩) N cap, .int .i64 (a : Int), .int .i64 (m : Int), .int .i64 (b : Int), .func (.func 44) #[] #[]] w fun e w' => e = .returned (.tuple #[]) ∧ (∃ D' T', b = D'.flatten.length ∧ PassS keyE L bs D' T' ∧ Dat 49 w' g N cap (D' ++ T').flatten) ∧ Only g w w' := by
  have hlen := h.lens
  obtain ⟨X, Y, r, rfl, hX, hY, hr⟩ := two_of hbs h.rest (by omega)
  obtain ⟨sX, sY, sT⟩ := h.good.two
  have hgo : ∀ p ∈ (D ++ X :: Y :: r).flatten, goodE p.2 := fun p hp => hg p (h.perm.mem_iff.1 hp)
  refine (sym_any g N cap hN (X.length + Y.length + 1) D.flatten X Y r.flatten a m b w (by omega) (by simpa using hd) ha (by omega) (by omega) (by omega) (by omega) sX sY sT (fun p hp => hgo p (by simp [hp])) (fun p hp => hgo p (by simp [hp]))).mono ?_
  rintro e w' ⟨rfl, ⟨Z, hp, hs, hd'⟩, ho⟩
  have hz : Z.length = 2 * bs := by rw [hp.length_eq, List.length_append]; omega
  have hf : (D ++ [Z]).flatten.length = D.flatten.length + 2 * bs := by rw [flat_snoc, List.length_append, hz]
  exact ⟨rfl, ⟨D ++ [Z], r, by omega, h.step hX hY hr hp hs, by simpa using hd'⟩, ho⟩
/-- the last two blocks -/
theorem merge_last (g N cap bs : Nat) (L : List (Nat × EV)) (D T : List (List (Nat × EV))) (a m : Nat) (w : World) (hl : L.length = N) (hbs : 0 < bs) (ha : a = D.flatten.length) (hm : m = a + bs) (h1 : m < N) (h2 : N < a + 2 * bs) (h : PassS keyE L bs D T) (hd : Dat 49 w g N cap (D ++ T).flatten) (hg : ∀ p ∈ L, goodE p.2) (hN : N ≤ 1000000) :
    Calls Tryz.prog 109 #[.slice (some ⟨g, 0, none⟩) N cap, .int .i64 (a : Int), .int .i64 (m : Int), .int .i64 (N : Int), .func (.func 44) #[] #[]] w fun e w' => e = .returned (.tuple #[]) ∧ (∃ T', PassS keyE L (2 * bs) [] T' ∧ Dat 49 w' g N cap T'.flatten) ∧ Only g w w' := by
  have hlen := h.lens
  obtain ⟨X, Y, rfl, hX, hY, hY2⟩ := last_of hbs h.rest (by omega) (by omega)
  obtain ⟨sX, sY, sT⟩ := h.good.two
  have hgo : ∀ p ∈ (D ++ [X, Y]).flatten, goodE p.2 := fun p hp => hg p (h.perm.mem_iff.1 hp)
  simp only [List.flatten_cons, List.flatten_nil, List.append_nil, List.length_append] at hlen
  refine (sym_any g N cap hN (X.length + Y.length + 1) D.flatten X Y [] a m N w (by omega) (by simpa using hd) ha (by omega) (by omega) (by omega) (by omega) sX sY sT (fun p hp => hgo p (by simp [hp])) (fun p hp => hgo p (by simp [hp]))).mono ?_
  rintro e w' ⟨rfl, ⟨Z, hp, hs, hd'⟩, ho⟩
  exact ⟨rfl, ⟨D ++ [Z], h.endTwo hbs hX ⟨hY, hY2⟩ hp hs, by simpa using hd'⟩, ho⟩
end Go.Proofs.YtlhaidibcocooaaGreatDoor

namespace Go.Proofs.YtlhaidibcocooaaGreatDoor
open Go.RowKit Go.Sort

set_option maxRecDepth 100000 in
set_option maxHeartbeats 3200000 in
theorem stable_any (g N cap : Nat) (L : List (Nat × EV)) (w : World) (h : Dat 49 w g N cap L) (hr : Rise L) (hg : ∀ p ∈ L, goodE p.2) (hN : N ≤ 1000000) :
    Calls Tryz.prog 79 #[.slice (some ⟨g, 0, none⟩) N cap, .int .i64 (N : Int), .func (.func 44) #[] #[]] w fun e w' => e = .returned (.tuple #[]) ∧ (∃ Z : List (Nat × EV), Z.Perm L ∧ Srt keyE Z ∧ Dat 49 w' g N cap Z) ∧ Only g w w' := by
  have hl := h.len
  have HH := Lib.hid (And.intro hl (And.intro hr hg))
  have HD := Lib.hid h
  clear h hl hr hg
  go_enter Tryz.func79, Tryz.ntmps79
  go_wp2_with fail
  go_loopw [7, 8] (fun s7 s8 wr => ∃ (a b : Nat) (D : List (List (Nat × EV))), s7 = .int .i64 (a : Int) ∧ s8 = .int .i64 (b : Int) ∧ Hid (a = D.flatten.length ∧ a ≤ N ∧ b = a + 20) ∧ Hid (FirstS keyE L 20 D) ∧ Hid (Dat 49 wr g N cap (D.flatten ++ L.drop D.flatten.length)) ∧ Hid (Only g w wr)) (fun s7 _ _ => N - (intOf s7).toNat)
  case atStart => exact ⟨0, 20, [], rfl, rfl, Lib.hid ⟨rfl, Nat.zero_le _, rfl⟩, Lib.hid (FirstS.nil _ _ _), by simpa using HD, Lib.hid (Only.refl g w)⟩
  case round =>
    clear HD
    obtain ⟨a, b, D, rfl, rfl, HA, HF, HD, HO⟩ := hrel
    obtain ⟨hl, hr, hg⟩ := HH.out
    by_cases hbn : b ≤ N
    · have HC := Lib.hid (ins_more g N cap L D a b wr hl HA.out.1 HA.out.2.2 hbn HF.out HD.out hr hg hN)
      have hz : (b : Int) ≤ (N : Int) := Int.ofNat_le.2 hbn
      have hw : IntKind.i64.wrap ((b : Int) + 20) = ((b + 20 : Nat) : Int) := by
        rw [show (b : Int) + 20 = ((b + 20 : Nat) : Int) by omega]
        exact IntWalk.i64_in _ (by omega)
      have hms : N - b < N - a := by have := HA.out; omega
      clear hl hr hg
      generalize hc : b + 20 = c at *
      have HCc := Lib.hid hc
      clear hc
      go_wp2_with fail
      refine HC.out.mono ?_
      rintro e w2 ⟨rfl, ⟨D', hb', hf', hd'⟩, ho'⟩
      have HZ := Lib.hid (And.intro hb' (And.intro hf' (And.intro hd' (HO.out.trans ho'))))
      clear hb' hf' hd' ho'
      go_wp2_with fail
      exact ⟨⟨b, c, D', rfl, rfl, Lib.hid ⟨HZ.out.1, hbn, HCc.out.symm⟩, Lib.hid HZ.out.2.1, Lib.hid HZ.out.2.2.1, Lib.hid HZ.out.2.2.2⟩, by simp [intOf]; omega⟩
    · have HC := Lib.hid (ins_rest g N cap L D a wr hl HA.out.1 HA.out.2.1 (by have := HA.out.2.2; omega) HF.out HD.out hr hg hN)
      have hz : ¬ (b : Int) ≤ (N : Int) := fun hh => hbn (Int.ofNat_le.1 hh)
      clear hl hr hg hbn
      go_wp2_with fail
      refine HC.out.mono ?_
      rintro e w2 ⟨rfl, ⟨T0, hp0, hd0⟩, ho0⟩
      have HP0 := Lib.hid hp0
      have HD0 := Lib.hid hd0
      have HO0 := Lib.hid (HO.out.trans ho0)
      clear hp0 hd0 ho0 HD HO HF HC
      go_wp2_with fail
      go_loopw [6] (fun s6 wx => ∃ (bs : Nat) (T : List (List (Nat × EV))), s6 = .int .i64 (bs : Int) ∧ Hid (0 < bs ∧ bs ≤ 2 * N + 20) ∧ Hid (PassS keyE L bs [] T) ∧ Hid (Dat 49 wx g N cap T.flatten) ∧ Hid (Only g w wx)) (fun s6 _ => N - (intOf s6).toNat)
      case atStart => exact ⟨20, T0, rfl, Lib.hid (by omega), HP0, HD0, HO0⟩
      case round =>
        clear HP0 HD0 HO0
        obtain ⟨bs, T, rfl, HB, HP, HD, HO⟩ := hrel
        by_cases hlt : bs < N
        · have hz2 : (bs : Int) < (N : Int) := Int.ofNat_lt.2 hlt
          obtain ⟨b2, hb2⟩ : ∃ b2, b2 = 2 * bs := ⟨_, rfl⟩
          have hw1 : IntKind.i64.wrap (2 * (bs : Int)) = (b2 : Int) := by
            rw [show 2 * (bs : Int) = (b2 : Int) by omega]
            exact IntWalk.i64_in _ (by omega)
          have hw2 : IntKind.i64.wrap ((bs : Int) * 2) = (b2 : Int) := by
            rw [show (bs : Int) * 2 = (b2 : Int) by omega]
            exact IntWalk.i64_in _ (by omega)
          have HB2 := Lib.hid hb2
          clear hb2
          go_wp2_with fail
          go_loopw [7, 8] (fun s7 s8 wy => ∃ (p q : Nat) (D1 T1 : List (List (Nat × EV))), s7 = .int .i64 (p : Int) ∧ s8 = .int .i64 (q : Int) ∧ Hid (p = D1.flatten.length ∧ p ≤ N ∧ q = p + b2) ∧ Hid (PassS keyE L bs D1 T1) ∧ Hid (Dat 49 wy g N cap (D1 ++ T1).flatten) ∧ Hid (Only g w wy)) (fun s7 _ _ => N - (intOf s7).toNat)
          case atStart => exact ⟨0, b2, [], T, rfl, rfl, Lib.hid ⟨rfl, Nat.zero_le _, by omega⟩, HP, by simpa using HD, HO⟩
          case round =>
            clear HP HD HO
            obtain ⟨p, q, D1, T1, rfl, rfl, HA1, HP1, HD1, HO1⟩ := hrel
            obtain ⟨hl, hr, hg⟩ := HH.out
            obtain ⟨m, hm⟩ : ∃ m, m = p + bs := ⟨_, rfl⟩
            have hwm : IntKind.i64.wrap ((p : Int) + (bs : Int)) = (m : Int) := by
              have := HA1.out
              rw [show (p : Int) + (bs : Int) = (m : Int) by omega]
              exact IntWalk.i64_in _ (by omega)
            by_cases hqn : q ≤ N
            · have HC1 := Lib.hid (merge_two g N cap bs L D1 T1 p m q wr hl HB.out.1 HA1.out.1 hm (by have := HA1.out; have := HB2.out; omega) hqn HP1.out HD1.out hg hN)
              have hz3 : (q : Int) ≤ (N : Int) := Int.ofNat_le.2 hqn
              obtain ⟨q2, hq2⟩ : ∃ q2, q2 = q + b2 := ⟨_, rfl⟩
              have hw3 : IntKind.i64.wrap ((q : Int) + (b2 : Int)) = (q2 : Int) := by
                have := HB2.out
                rw [show (q : Int) + (b2 : Int) = (q2 : Int) by omega]
                exact IntWalk.i64_in _ (by omega)
              have hms : N - q < N - p := by have := HA1.out; have := HB2.out; have := HB.out; omega
              have HQ2 := Lib.hid hq2
              clear hl hr hg hm hq2
              go_wp2_with fail
              refine HC1.out.mono ?_
              rintro e w3 ⟨rfl, ⟨D2, T2, h1, h2, h3⟩, ho3⟩
              have HZ := Lib.hid (And.intro h1 (And.intro h2 (And.intro h3 (HO1.out.trans ho3))))
              clear h1 h2 h3 ho3
              go_wp2_with fail
              exact ⟨⟨q, q2, D2, T2, rfl, rfl, Lib.hid ⟨HZ.out.1, hqn, HQ2.out⟩, Lib.hid HZ.out.2.1, Lib.hid HZ.out.2.2.1, Lib.hid HZ.out.2.2.2⟩, by simp [intOf]; omega⟩
            · have hz3 : ¬ (q : Int) ≤ (N : Int) := fun hh => hqn (Int.ofNat_le.1 hh)
              have HQ := Lib.hid (show N < p + 2 * bs by have := HA1.out; have := HB2.out; omega)
              have hms : N - b2 < N - bs := by have := HB2.out; have := HB.out; omega
              by_cases hmn : m < N
              · have HC1 := Lib.hid (merge_last g N cap bs L D1 T1 p m wr hl HB.out.1 HA1.out.1 hm hmn HQ.out HP1.out HD1.out hg hN)
                have hz4 : (m : Int) < (N : Int) := Int.ofNat_lt.2 hmn
                clear hl hr hg hm hqn
                go_wp2_with fail
                refine HC1.out.mono ?_
                rintro e w3 ⟨rfl, ⟨T2, h2, h3⟩, ho3⟩
                have HZ := Lib.hid (And.intro h2 (And.intro h3 (HO1.out.trans ho3)))
                clear h2 h3 ho3
                go_wp2_with fail
                exact ⟨⟨b2, T2, rfl, Lib.hid (by have := HB2.out; have := HB.out; omega), Lib.hid (by rw [HB2.out]; exact HZ.out.1), Lib.hid HZ.out.2.1, Lib.hid HZ.out.2.2⟩, by simp [intOf]; omega⟩
              · have hz4 : ¬ (m : Int) < (N : Int) := fun hh => hmn (Int.ofNat_lt.1 hh)
                have HZ := Lib.hid (HP1.out.endOne HB.out.1 (by have := HP1.out.lens; have := HA1.out; omega))
                clear hl hr hg hm hqn
                go_wp2_with fail
                exact ⟨⟨b2, D1 ++ T1, rfl, Lib.hid (by have := HB2.out; have := HB.out; omega), Lib.hid (by rw [HB2.out]; exact HZ.out), HD1, HO1⟩, by simp [intOf]; omega⟩
        · have hz2 : ¬ (bs : Int) < (N : Int) := fun hh => hlt (Int.ofNat_lt.1 hh)
          have HZ := Lib.hid (show Srt keyE T.flatten from HP.out.done HB.out.1 (by have := HH.out.1; omega))
          clear hlt
          go_wp2_with fail
          go_end0
          exact ⟨rfl, ⟨T.flatten, by simpa using HP.out.perm, HZ.out, HD.out⟩, HO.out⟩
set_option maxHeartbeats 1600000 in
theorem sort_any (g N cap : Nat) (L : List (Nat × EV)) (w : World) (h : Dat 49 w g N cap L) (hr : Rise L) (hg : ∀ p ∈ L, goodE p.2) (hN : N ≤ 1000000) :
    Calls Tryz.prog 43 #[.slice (some ⟨g, 0, none⟩) N cap, .func (.func 44) #[] #[]] w fun e w' => e = .returned (.tuple #[]) ∧ (∃ Z : List (Nat × EV), Z.Perm L ∧ Srt keyE Z ∧ Dat 49 w' g N cap Z) ∧ Only g w w' := by
  have HC := Lib.hid (stable_any g N cap L w h hr hg hN)
  clear h hr hg
  go_enter Tryz.func43, Tryz.ntmps43
  go_wp2_with fail
  refine HC.out.mono ?_
  rintro e w2 ⟨rfl, hz, ho⟩
  have HZ := Lib.hid (And.intro hz ho)
  clear hz ho
  go_wp2_with fail
  go_end0
  exact ⟨rfl, HZ.out.1, HZ.out.2⟩
end Go.Proofs.YtlhaidibcocooaaGreatDoor
