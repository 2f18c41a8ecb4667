/- Arithmetic expressions: the program's sameExpr decides whether two trees are the same. -/
import Derived.Test.YtiigclkebnmopaaGreatDoorArLast
import Derived.Test.YtiigclkebnmopaaGreatDoorArRPr
import Derived.BigQuiet
namespace Go.Proofs.YtiigclkebnmopaaGreatDoor
open Go.RowKit Go.Shelf

mutual
/-- whether two expressions are the same -/
def eqX : Ex → Ex → Bool
  | .mk o n m a, .mk o' n' m' a' => o == o' && n == n' && m == m' && eqXs a a'
def eqXs : List Ex → List Ex → Bool
  | [], [] => true
  | x :: a, y :: b => eqX x y && eqXs a b
  | _, _ => false
end
mutual
theorem eqX_eq : ∀ (x y : Ex), eqX x y = true → x = y
  | .mk o n m a, .mk o' n' m' a', h => by
    unfold eqX at h
    simp only [Bool.and_eq_true, beq_iff_eq] at h
    obtain ⟨⟨⟨h1, h2⟩, h3⟩, h4⟩ := h
    rw [h1, h2, h3, eqXs_eq a a' h4]
theorem eqXs_eq : ∀ (a b : List Ex), eqXs a b = true → a = b
  | [], [], _ => rfl
  | x :: a, y :: b, h => by
    unfold eqXs at h
    simp only [Bool.and_eq_true] at h
    rw [eqX_eq x y h.1, eqXs_eq a b h.2]
  | [], _ :: _, h => by simp [eqXs] at h
  | _ :: _, [], h => by simp [eqXs] at h
end
mutual
theorem eqX_refl : ∀ (x : Ex), eqX x x = true
  | .mk o n m a => by unfold eqX; simp [eqXs_refl a]
theorem eqXs_refl : ∀ (a : List Ex), eqXs a a = true
  | [] => by simp [eqXs]
  | x :: a => by unfold eqXs; rw [eqX_refl x, eqXs_refl a]; rfl
end
theorem eqXs_len : ∀ (a b : List Ex), a.length ≠ b.length → eqXs a b = false
  | [], [], h => absurd rfl h
  | x :: a, y :: b, h => by
    unfold eqXs
    rw [eqXs_len a b (by simpa using h), Bool.and_false]
  | [], _ :: _, _ => by simp [eqXs]
  | _ :: _, [], _ => by simp [eqXs]

/-- the program tells whether it is the same -/
def SmC (P Q : Nat → Prop) (x y : Ex) : Prop := ∀ (v u : Value) (W : World), ExV P W v x → ExV Q W u y → Calls Tryz.prog 46 #[v, u] W fun e W' => e = .returned (.bool (eqX x y)) ∧ Below W.heap.size W W'

set_option maxRecDepth 100000 in
set_option maxHeartbeats 6400000 in
theorem equal_walk (P Q : Nat → Prop) (A B : Option Addr) (c d : Nat) (l m : List Ex) (w : World) (hA : ExA P w A l) (hB : ExA Q w B m) (hl : l.length ≤ 1048576) (hm : m.length ≤ 1048576) (IH : ∀ x ∈ l, ∀ y ∈ m, SmC P Q x y) :
    Calls Tryz.prog 89 #[.slice A l.length c, .slice B m.length d, .func (.func 46) #[] #[]] w fun e w' => e = .returned (.bool (eqXs l m)) ∧ Below w.heap.size w w' := by
  have HA := Lib.hid hA
  have HB := Lib.hid hB
  have HI := Lib.hid IH
  clear hA hB IH
  by_cases hlm : l.length = m.length
  · have hd : ((l.length : Int) != (m.length : Int)) = false := by rw [bne_eq_false_iff_eq]; omega
    have HLM := Lib.hid hlm
    clear hlm
    go_enter Tryz.func89, Tryz.ntmps89
    go_wp2_with fail
    go_loopw [15] (fun s15 wr => ∃ (k : Nat), s15 = .int .i64 (k : Int) ∧ k ≤ l.length ∧ Hid (ExA P wr A l) ∧ Hid (ExA Q wr B m) ∧ Hid (eqXs l m = eqXs (l.drop k) (m.drop k)) ∧ Hid (Below w.heap.size w wr)) (fun s15 _ => l.length - (intOf s15).toNat)
    case atStart => exact ⟨0, rfl, Nat.zero_le _, HA, HB, Lib.hid rfl, Lib.hid (Below.refl _ _)⟩
    case round =>
      clear HA HB
      obtain ⟨k, rfl, hk, HA, HB, HE, HW⟩ := hrel
      by_cases hlt : k < l.length
      · have hlt2 : k < m.length := by rw [← HLM.out]; exact hlt
        obtain ⟨g, off, rfl, _, hg, hL⟩ := HA.out (by omega)
        obtain ⟨g2, off2, rfl, _, hg2, hL2⟩ := HB.out (by omega)
        have hdr : l.drop k = l[k] :: l.drop (k + 1) := List.drop_eq_getElem_cons hlt
        have hdr2 : m.drop k = m[k] :: m.drop (k + 1) := List.drop_eq_getElem_cons hlt2
        have hLk := exl_at (k := k) hL
        have hLk2 := exl_at (k := k) hL2
        have hmem := List.getElem_mem hlt
        have hmem2 := List.getElem_mem hlt2
        rw [hdr] at hLk
        rw [hdr2] at hLk2
        rw [hdr, hdr2] at HE
        obtain ⟨v0, v1, v2, v3, k0, k1, k2, k3, hx⟩ := ex0 hLk
        obtain ⟨u0, u1, u2, u3, j0, j1, j2, j3, hy⟩ := ex0 hLk2
        generalize l[k] = x at *
        generalize m[k] = y at *
        rw [show off + 4 * k = off + k * 4 by omega] at k0 k1 k2 k3
        rw [show off2 + 4 * k = off2 + k * 4 by omega] at j0 j1 j2 j3
        obtain ⟨n5, A5, k5, c5, nm5, hv, hq5⟩ := hx.form
        obtain ⟨n6, A6, k6, c6, nm6, hu, hq6⟩ := hy.form
        simp only [Value.agg.injEq, Array.mk.injEq, List.cons.injEq, and_true] at hv hu
        clear hq5 hq6
        obtain ⟨rfl, rfl, rfl, rfl⟩ := hv
        obtain ⟨rfl, rfl, rfl, rfl⟩ := hu
        have HI2 := Lib.hid (HI.out x hmem y hmem2 _ _ wr.drew (hx.below (Below.refl _ wr).drew) (hy.below (Below.refl _ wr).drew))
        have HE1 := Lib.hid (show eqXs l m = (eqX x y && eqXs (l.drop (k + 1)) (m.drop (k + 1))) from HE.out)
        obtain ⟨q, hq⟩ : ∃ q, eqX x y = q := ⟨_, rfl⟩
        rw [hq] at HI2 HE1
        clear hdr hdr2 hx hy hL hL2 hLk hLk2 hmem hmem2 hq HE
        generalize x.op = opx at *
        generalize y.op = opy at *
        cases q with
        | true =>
          have HE3 := Lib.hid (show eqXs l m = eqXs (l.drop (k + 1)) (m.drop (k + 1)) from HE1.out)
          go_upto_region 6 with fail
          go_region_law (first
            | (go_simp; go_at_call 46; refine HI2.out.mono ?_; rintro e w3 ⟨rfl, hb0⟩; have hb3 : Below wr.heap.size wr w3 := (Below.refl _ wr).drew.trans hb0; have HA3 := Lib.hid (HA.out.below hb3); have HB3 := Lib.hid (HB.out.below hb3); have HW3 := Lib.hid (HW.out.trans (hb3.mono HW.out.size)); clear hb0 hb3))
          all_goals
            go_wp2_with fail
            go_roundw
            case rel => exact ⟨k + 1, (by congr 1), by omega, HA3, HB3, HE3, HW3⟩
            case measure => simp [intOf]; omega
        | false =>
          have HE3 := Lib.hid (show eqXs l m = false from HE1.out)
          go_upto_region 6 with fail
          go_region_law (first
            | (go_simp; go_at_call 46; refine HI2.out.mono ?_; rintro e w3 ⟨rfl, hb0⟩; have hb3 : Below wr.heap.size wr w3 := (Below.refl _ wr).drew.trans hb0; have HW3 := Lib.hid (HW.out.trans (hb3.mono HW.out.size)); clear hb0 hb3))
          all_goals
            go_wp2_with fail
            go_ret
            exact ⟨by rw [HE3.out]; rfl, HW3.out⟩
      · obtain rfl : k = l.length := by omega
        have HE3 := Lib.hid (show eqXs l m = true by rw [HE.out, List.drop_length, List.drop_of_length_le (by rw [HLM.out]; exact Nat.le_refl _)]; rfl)
        go_wp2_with fail
        go_ret
        exact ⟨by rw [HE3.out]; rfl, HW.out⟩
  · have hd : ((l.length : Int) != (m.length : Int)) = true := by rw [bne_iff_ne]; omega
    have HE3 := Lib.hid (eqXs_len l m hlm)
    go_enter Tryz.func89, Tryz.ntmps89
    go_wp2_with fail
    go_ret
    exact ⟨by rw [HE3.out]; rfl, Below.refl _ _⟩

set_option maxRecDepth 100000 in
set_option maxHeartbeats 3200000 in
theorem same_step (P Q : Nat → Prop) (op nm : List UInt8) (n : Int) (l : List Ex) (op' nm' : List UInt8) (n' : Int) (m : List Ex) (hl : l.length ≤ 1048576) (hm : m.length ≤ 1048576) (IH : ∀ x ∈ l, ∀ y ∈ m, SmC P Q x y) : SmC P Q (.mk op n nm l) (.mk op' n' nm' m) := by
  intro v u w hv hu
  obtain ⟨A, c, rfl, _, hA⟩ := hv.parts
  obtain ⟨B, d, rfl, _, hB⟩ := hu.parts
  have hE := Lib.hid (fun W (hb : Below w.heap.size w W) => equal_walk P Q A B c d l m W (hA.below hb) (hB.below hb) hl hm IH)
  have HB := Lib.hid (fun o1 o2 => (((Below.refl _ w).alloc (Nat.le_refl _) o1).alloc (by simp) o2))
  have HR := Lib.hid (show eqX (.mk op n nm l) (.mk op' n' nm' m) = (op == op' && n == n' && nm == nm' && eqXs l m) by conv => lhs; unfold eqX)
  have f1 : ((toB op).toList == (toB op').toList) = (op == op') := by rw [toB_toList, toB_toList]
  have f3 : ((toB nm).toList == (toB nm').toList) = (nm == nm') := by rw [toB_toList, toB_toList]
  clear hA hB hv hu IH
  obtain ⟨b1, hb1⟩ : ∃ b1, (op == op') = b1 := ⟨_, rfl⟩
  obtain ⟨b2, hb2⟩ : ∃ b2, (n == n') = b2 := ⟨_, rfl⟩
  obtain ⟨b3, hb3⟩ : ∃ b3, (nm == nm') = b3 := ⟨_, rfl⟩
  rw [hb1] at f1
  rw [hb3] at f3
  rw [hb1, hb2, hb3] at HR
  clear hb1 hb3
  have f2 := hb2
  clear hb2
  cases b1 with
  | false =>
    go_enter Tryz.func46, Tryz.ntmps46
    go_wp2_with fail
    go_ret
    exact ⟨by rw [HR.out]; rfl, HB.out _ _⟩
  | true =>
    cases b2 with
    | false =>
      go_enter Tryz.func46, Tryz.ntmps46
      go_wp2_with fail
      go_ret
      exact ⟨by rw [HR.out]; rfl, HB.out _ _⟩
    | true =>
      cases b3 with
      | false =>
        go_enter Tryz.func46, Tryz.ntmps46
        go_wp2_with fail
        go_ret
        exact ⟨by rw [HR.out]; rfl, HB.out _ _⟩
      | true =>
        go_enter Tryz.func46, Tryz.ntmps46
        go_wp2_with fail
        refine (hE.out _ (HB.out _ _)).mono ?_
        rintro e w1 ⟨rfl, hb⟩
        have HB1 := Lib.hid ((HB.out _ _).trans (hb.mono (HB.out _ _).size))
        clear hb
        go_wp2_with fail
        go_ret
        exact ⟨by rw [HR.out]; rfl, HB1.out⟩
theorem same_any (P Q : Nat → Prop) : ∀ (N : Nat) (x : Ex), x.size ≤ N → N ≤ 1048576 → ∀ (y : Ex), y.size ≤ 1048576 → SmC P Q x y
  | 0, x, hN, _, _, _ => by have := size_pos x; omega
  | N + 1, .mk op n nm l, hN, hB, .mk op' n' nm' m, hy => by
    have hsz : (Ex.mk op n nm l).size = Ex.sizes l + 1 := by simp [Ex.size]
    have hsz2 : (Ex.mk op' n' nm' m).size = Ex.sizes m + 1 := by simp [Ex.size]
    have hl := len_sizes l
    have hm := len_sizes m
    refine same_step P Q op nm n l op' nm' n' m (by omega) (by omega) ?_
    intro x hx y hy'
    exact same_any P Q N x (by have := size_mem hx; omega) (by omega) y (by have := size_mem hy'; omega)

end Go.Proofs.YtiigclkebnmopaaGreatDoor
