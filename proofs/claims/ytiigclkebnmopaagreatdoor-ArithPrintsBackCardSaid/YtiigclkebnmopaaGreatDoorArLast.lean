/- Arithmetic expressions: the reference's SameTree of two that are the same. -/
import Derived.Test.YtiigclkebnmopaaGreatDoorArPre
import Derived.BigQuiet
import Derived.Test.YtiigclkebnmopaaGreatDoorArArith
namespace Go.Proofs.YtiigclkebnmopaaGreatDoor
open Go.RowKit Go.Shelf

/-- a list of expressions at an address -/
def ExA (P : Nat → Prop) (w : World) (A : Option Addr) (l : List Ex) : Prop := 0 < l.length → ∃ g off, A = some ⟨g, off, none⟩ ∧ P g ∧ g < w.heap.size ∧ ExL P w g off l
theorem ExA.below {P : Nat → Prop} {w w' : World} {A : Option Addr} {l : List Ex} (h : ExA P w A l) (hb : Below w.heap.size w w') : ExA P w' A l := fun h0 => by
  obtain ⟨g, off, h1, h2, h3, h4⟩ := h h0
  exact ⟨g, off, h1, h2, Nat.lt_of_lt_of_le h3 hb.size, ExL.keep (P := P) (Q := P) hb.size (fun g hP hg => ⟨hb.block g hg, hP⟩) (hb.block g h3) l h4⟩
theorem ExV.parts {P : Nat → Prop} {w : World} {v : Value} {op nm : List UInt8} {n : Int} {l : List Ex} (h : ExV P w v (.mk op n nm l)) : ∃ A c, v = .agg #[.string (toB op), .int .i64 (n : Int), .string (toB nm), .slice A l.length c] ∧ l.length ≤ c ∧ ExA P w A l := by
  unfold ExV at h
  exact h
/-- the reference finds two expressions the same -/
def EqC (P Q : Nat → Prop) (y : Ex) : Prop := ∀ (v u : Value) (W : World), ExV P W v y → ExV Q W u y → Calls Tryz.prog 64 #[v, u] W fun e W' => e = .returned (.bool true) ∧ Below W.heap.size W W'

set_option maxRecDepth 100000 in
set_option maxHeartbeats 3200000 in
theorem eqfunc_any (P Q : Nat → Prop) (A B : Option Addr) (c d : Nat) (l : List Ex) (w : World) (hA : ExA P w A l) (hB : ExA Q w B l) (hl : l.length ≤ 1048576) (IH : ∀ y ∈ l, EqC P Q y) :
    Calls Tryz.prog 163 #[.slice A l.length c, .slice B l.length d, .func (.func 64) #[] #[]] w fun e w' => e = .returned (.bool true) ∧ Below w.heap.size w w' := by
  have hd : ((l.length : Int) != (l.length : Int)) = false := by simp
  have HA := Lib.hid hA
  have HB := Lib.hid hB
  have HI := Lib.hid IH
  clear hA hB IH
  go_enter Tryz.func163, Tryz.ntmps163
  go_wp2_with fail
  go_loopw [17] (fun s17 wr => ∃ (k : Nat), s17 = .int .i64 (k : Int) ∧ k ≤ l.length ∧ Hid (ExA P wr A l) ∧ Hid (ExA Q wr B l) ∧ Hid (Below w.heap.size w wr)) (fun s17 _ => l.length - (intOf s17).toNat)
  case atStart => exact ⟨0, rfl, Nat.zero_le _, HA, HB, Lib.hid (Below.refl _ _)⟩
  case round =>
    clear HA HB
    obtain ⟨k, rfl, hk, HA, HB, HW⟩ := hrel
    by_cases hlt : k < l.length
    · obtain ⟨g, off, rfl, _, hg, hL⟩ := HA.out (by omega)
      obtain ⟨g2, off2, rfl, _, hg2, hL2⟩ := HB.out (by omega)
      have hdr : l.drop k = l[k] :: l.drop (k + 1) := List.drop_eq_getElem_cons hlt
      have hLk := exl_at (k := k) hL
      have hLk2 := exl_at (k := k) hL2
      have hmem := List.getElem_mem hlt
      rw [hdr] at hLk hLk2
      unfold ExL at hLk hLk2
      obtain ⟨⟨v0, v1, v2, v3, k0, k1, k2, k3, hx⟩, _⟩ := hLk
      obtain ⟨⟨u0, u1, u2, u3, j0, j1, j2, j3, hy⟩, _⟩ := hLk2
      generalize l[k] = y at *
      rw [show off + 4 * k = off + k * 4 by omega] at k0 k1 k2 k3
      rw [show off2 + 4 * k = off2 + k * 4 by omega] at j0 j1 j2 j3
      obtain ⟨n5, A5, k5, c5, nm5, hv, hq5⟩ := hx.form
      obtain ⟨n6, A6, k6, c6, nm6, hu, hq6⟩ := hy.form
      simp only [Value.agg.injEq, Array.mk.injEq, List.cons.injEq, and_true] at hv hu
      clear hq5 hq6
      obtain ⟨rfl, rfl, rfl, rfl⟩ := hv
      obtain ⟨rfl, rfl, rfl, rfl⟩ := hu
      have b1 := (Below.refl wr.heap.size wr).alloc (Nat.le_refl _) (.cells #[.string (toB y.op), .int .i64 n5, .string (toB nm5), .slice A5 k5 c5] 25)
      have b2 := b1.alloc b1.size (.cells #[.string (toB y.op), .int .i64 n6, .string (toB nm6), .slice A6 k6 c6] 25)
      have F1 := (Four.new wr (.string (toB y.op)) (.int .i64 n5) (.string (toB nm5)) (.slice A5 k5 c5)).keep ((Below.refl _ _).alloc (Nat.le_refl _) (.cells #[.string (toB y.op), .int .i64 n6, .string (toB nm6), .slice A6 k6 c6] 25))
      have F2 := Four.new (wr.alloc (.cells #[.string (toB y.op), .int .i64 n5, .string (toB nm5), .slice A5 k5 c5] 25)) (.string (toB y.op)) (.int .i64 n6) (.string (toB nm6)) (.slice A6 k6 c6)
      have hF := Lib.hid (And.intro F1 F2)
      have HX := Lib.hid (hx.below b2)
      have HY := Lib.hid (hy.below b2)
      have HA2 := Lib.hid (HA.out.below b2)
      have HB2 := Lib.hid (HB.out.below b2)
      have HW2 := Lib.hid (HW.out.trans (b2.mono HW.out.size))
      have HI2 := Lib.hid (HI.out y hmem)
      clear hdr hx hy hL hL2 hmem b1 b2 F1 F2
      go_upto_region 7 with fail
      have e2 : (wr.alloc (.cells #[.string (toB y.op), .int .i64 n5, .string (toB nm5), .slice A5 k5 c5] 25)).heap.size = wr.heap.size + 1 := by simp
      rw [e2] at hF
      generalize (wr.alloc (.cells #[.string (toB y.op), .int .i64 n5, .string (toB nm5), .slice A5 k5 c5] 25)).alloc (.cells #[.string (toB y.op), .int .i64 n6, .string (toB nm6), .slice A6 k6 c6] 25) = w2 at *
      clear k0 k1 k2 k3 j0 j1 j2 j3 e2
      obtain ⟨p0, p1, p2, p3, _⟩ := hF.out.1.cells
      obtain ⟨q0, q1, q2, q3, _⟩ := hF.out.2.cells
      go_wp2_with fail
      refine (HI2.out _ _ w2 HX.out HY.out).mono ?_
      rintro e w3 ⟨rfl, hb3⟩
      have HA3 := Lib.hid (HA2.out.below hb3)
      have HB3 := Lib.hid (HB2.out.below hb3)
      have HW3 := Lib.hid (HW2.out.trans (hb3.mono HW2.out.size))
      clear hb3 p0 p1 p2 p3 q0 q1 q2 q3
      go_wp2_with fail
      exact ⟨⟨k + 1, (by congr 1), by omega, HA3, HB3, HW3⟩, by simp [intOf]; omega⟩
    · obtain rfl : k = l.length := by omega
      go_wp2_with fail
      go_ret
      exact ⟨rfl, HW.out⟩

set_option maxHeartbeats 1600000 in
theorem listeqExpr_any (P Q : Nat → Prop) (A B : Option Addr) (c d : Nat) (l : List Ex) (w : World) (hA : ExA P w A l) (hB : ExA Q w B l) (hl : l.length ≤ 1048576) (IH : ∀ y ∈ l, EqC P Q y) :
    Calls Tryz.prog 109 #[.slice A l.length c, .slice B l.length d] w fun e w' => e = .returned (.bool true) ∧ Below w.heap.size w w' := by
  have hE := Lib.hid (eqfunc_any P Q A B c d l w hA hB hl IH)
  clear hA hB IH
  go_enter Tryz.func109, Tryz.ntmps109
  go_wp2_with fail
  refine hE.out.mono ?_
  rintro e w1 ⟨rfl, hb1⟩
  go_wp2
  go_ret
  exact ⟨rfl, hb1⟩

set_option maxRecDepth 100000 in
set_option maxHeartbeats 1600000 in
theorem eqExpr_step (P Q : Nat → Prop) (op nm : List UInt8) (n : Int) (l : List Ex) (hl : l.length ≤ 1048576) (IH : ∀ y ∈ l, EqC P Q y) : EqC P Q (.mk op n nm l) := by
  intro v u w hv hu
  obtain ⟨A, c, rfl, _, hA⟩ := hv.parts
  obtain ⟨B, d, rfl, _, hB⟩ := hu.parts
  have hE := Lib.hid (fun W (hb : Below w.heap.size w W) => listeqExpr_any P Q A B c d l W (hA.below hb) (hB.below hb) hl IH)
  have HB := Lib.hid (fun o1 o2 => (((Below.refl _ w).alloc (Nat.le_refl _) o1).alloc (by simp) o2))
  clear hA hB hv hu IH
  go_enter Tryz.func64, Tryz.ntmps64
  go_wp2_with fail
  refine (hE.out _ (HB.out _ _)).mono ?_
  rintro e w1 ⟨rfl, hb1⟩
  have HB1 := Lib.hid ((HB.out _ _).trans (hb1.mono (HB.out _ _).size))
  clear hb1
  go_wp2
  go_ret
  exact ⟨rfl, HB1.out⟩
theorem eqExpr_any (P Q : Nat → Prop) : ∀ (N : Nat) (x : Ex), x.size ≤ N → N ≤ 1048576 → EqC P Q x
  | 0, x, hN, _ => by have := size_pos x; omega
  | N + 1, .mk op nn nm l, hN, hB => by
    have hsz : (Ex.mk op nn nm l).size = Ex.sizes l + 1 := by simp [Ex.size]
    have hl := len_sizes l
    refine eqExpr_step P Q op nm nn l (by omega) ?_
    intro y hy
    exact eqExpr_any P Q N y (by have := size_mem hy; omega) (by omega)

theorem ta_expr (x : Value) (w : World) : (Instr.typeAssert (.iface 25 x) 20 25 true).run Tryz.prog w = .ok (.tuple #[x, .bool true]) w := by kernel_rfl
set_option maxRecDepth 100000 in
set_option maxHeartbeats 1600000 in
theorem sameTree_any (P Q : Nat → Prop) (x : Ex) (hs : x.size ≤ 1048576) (v u : Value) (w : World) (hv : ExV P w v x) (hu : ExV Q w u x) :
    Calls Tryz.prog 33 #[.iface 25 v, .iface 25 u] w fun e w' => e = .returned (.bool true) ∧ Below w.heap.size w w' := by
  have hE := Lib.hid (fun W (hb : Below w.heap.size w W) => eqExpr_any P Q x.size x (Nat.le_refl _) hs v u W (hv.below hb) (hu.below hb))
  obtain ⟨n5, A5, k5, c5, nm5, rfl, hq⟩ := hv.form
  obtain ⟨n6, A6, k6, c6, nm6, rfl, hq6⟩ := hu.form
  clear hv hu hq hq6
  have t1 := ta_expr
  go_enter Tryz.func33, Tryz.ntmps33
  go_wp2_with fail
  refine (hE.out _ (((Below.refl _ w).alloc (Nat.le_refl _) _).alloc (by simp) _)).mono ?_
  rintro e w1 ⟨rfl, hb1⟩
  clear t1
  go_wp2
  go_ret
  exact ⟨rfl, (((Below.refl _ w).alloc (Nat.le_refl _) _).alloc (by simp) _).trans (hb1.mono (by simp; omega))⟩
set_option maxHeartbeats 1600000 in
theorem sameE_any (P Q : Nat → Prop) (x : Ex) (hs : x.size ≤ 1048576) (v u : Value) (w : World) (hv : ExV P w v x) (hu : ExV Q w u x) :
    Calls Tryz.prog 9 #[.iface 25 v, .iface 25 u] w fun e w' => e = .returned (.bool true) ∧ Below w.heap.size w w' := by
  have hE := Lib.hid (sameTree_any P Q x hs v u w hv hu)
  clear hv hu
  go_enter Tryz.func9, Tryz.ntmps9
  go_wp2_with fail
  refine hE.out.mono ?_
  rintro e w1 ⟨rfl, hb1⟩
  go_wp2
  go_ret
  exact ⟨rfl, hb1⟩

end Go.Proofs.YtiigclkebnmopaaGreatDoor

namespace Go.Proofs.YtiigclkebnmopaaGreatDoor
open Go.RowKit Go.Shelf

theorem EX.below {w w' : World} (h : EX w) (hb : Below w.heap.size w w') : EX w' := by
  obtain ⟨h7, ⟨v, hv, hv'⟩, u, hu, hu'⟩ := h
  have h3 := hb.size
  exact ⟨by omega, ⟨v, (World.cell?_of_block (a := ⟨6, 0, none⟩) (hb.block 6 (by omega))).trans hv, hv'⟩, u, (World.cell?_of_block (a := ⟨7, 0, none⟩) (hb.block 7 h7)).trans hu, hu'⟩
theorem PX.below {w w' : World} (h : PX w) (hb : Below w.heap.size w w') : PX w' := by
  obtain ⟨h0, m, hm⟩ := h
  have h3 := hb.size
  exact ⟨by omega, m, (World.cell?_of_block (a := ⟨0, 0, none⟩) (hb.block 0 h0)).trans hm⟩

end Go.Proofs.YtiigclkebnmopaaGreatDoor
