/- SetIsGot, the reference: equal variables are the same. -/
import Derived.Test.YtiapondfajmkaaaGreatDoorSvN
namespace Go.Proofs.YtiapondfajmkaaaGreatDoor
open Go.RowKit

set_option maxRecDepth 100000 in
set_option maxHeartbeats 3200000 in
theorem equal_same (l : List ByteArray) (A1 A2 : Option Addr) (n1 c1 n2 c2 : Nat) (w : World) (h1 : SL w (.slice A1 n1 c1) l) (h2 : SL w (.slice A2 n2 c2) l) (hn : l.length ≤ 2000) :
    Calls Tryz.prog 181 #[.slice A1 n1 c1, .slice A2 n2 c2] w fun e w' => e = .returned (.bool true) ∧ Below w.heap.size w w' := by
  obtain rfl := h1.len
  obtain rfl := h2.len
  have H1 := Lib.hid h1
  have H2 := Lib.hid h2
  clear h1 h2
  go_enter Tryz.func181, Tryz.ntmps181
  go_wp2_with fail
  go_loopw [13] (fun i wr => ∃ k : Nat, k ≤ l.length ∧ i = .int .i64 k ∧ Below w.heap.size w wr) (fun i _ => l.length - (intOf i).toNat)
  case atStart => exact ⟨0, Nat.zero_le _, rfl, Below.refl _ _⟩
  case round =>
    obtain ⟨k, hk, rfl, hbw⟩ := hrel
    by_cases hlt : k < l.length
    · obtain ⟨A1', c1', e1, _, _, g1⟩ := H1.out.keep hbw
      obtain ⟨A2', c2', e2, _, _, g2⟩ := H2.out.keep hbw
      injection e1 with e11 e12 e13
      injection e2 with e21 e22 e23
      subst e11 e21
      obtain ⟨b1, o1, rfl, _, hc1⟩ := g1 (by omega)
      obtain ⟨b2, o2, rfl, _, hc2⟩ := g2 (by omega)
      have d1 := hc1 k hlt
      have d2 := hc2 k hlt
      generalize l[k] = t at *
      have hltz : (k : Int) < (l.length : Int) := by omega
      have hk0 : 0 ≤ (k : Int) := by omega
      have hk1 : IntKind.i64.wrap ((k : Int) + 1) = ((k + 1 : Nat) : Int) := IntWalk.i64_in _ (by omega)
      have HBW := Lib.hid hbw
      clear hc1 hc2 g1 g2 e12 e13 e22 e23 hbw
      go_wp2_with fail
      go_region
      go_wp2_with fail
      all_goals first
        | (exfalso; omega)
        | (exact ⟨⟨k + 1, by omega, by simp, HBW.out.drew⟩, by simp [intOf]; omega⟩)
    · go_wp2
      go_ret
      exact ⟨rfl, hbw⟩
set_option maxRecDepth 100000 in
theorem listeq_same (l : List ByteArray) (A1 A2 : Option Addr) (n1 c1 n2 c2 : Nat) (w : World) (h1 : SL w (.slice A1 n1 c1) l) (h2 : SL w (.slice A2 n2 c2) l) (hn : l.length ≤ 2000) :
    Calls Tryz.prog 111 #[.slice A1 n1 c1, .slice A2 n2 c2] w fun e w' => e = .returned (.bool true) ∧ Below w.heap.size w w' := by
  have HC := Lib.hid (equal_same l A1 A2 n1 c1 n2 c2 w h1 h2 hn)
  clear h1 h2
  go_enter Tryz.func111, Tryz.ntmps111
  go_wp2_with (go_at_call 181; refine HC.out.mono ?_; rintro e w1 ⟨rfl, hb⟩)
  go_ret
  exact ⟨rfl, hb⟩
set_option maxRecDepth 100000 in
set_option maxHeartbeats 3200000 in
theorem eqVar_same (x : VarV) (s1 s2 : SV) (w : World) (h1 : SL w (sv s1) x.ls) (h2 : SL w (sv s2) x.ls) (hn : x.ls.length ≤ 2000) :
    Calls Tryz.prog 75 #[aggV (x, s1), aggV (x, s2)] w fun e w' => e = .returned (.bool true) ∧ Below w.heap.size w w' := by
  obtain ⟨nm, vl, il, ls, ex, fx⟩ := x
  obtain ⟨a1, a2, a3⟩ := s1
  obtain ⟨b1, b2, b3⟩ := s2
  unfold aggV sv
  obtain ⟨x, hx⟩ : ∃ x, x = w.heap.size := ⟨_, rfl⟩
  obtain ⟨W0, hW0⟩ : ∃ W0, W0 = (w.alloc (.cells #[.string nm, .string vl, .bool il, .slice a1 a2 a3, .bool ex, .bool fx] 32)).alloc (.cells #[.string nm, .string vl, .bool il, .slice b1 b2 b3, .bool ex, .bool fx] 32) := ⟨_, rfl⟩
  have HB : Hid (Below w.heap.size w W0) := Lib.hid (by rw [hW0]; exact ((Below.refl _ w).alloc (Nat.le_refl _) _).alloc (by simp) _)
  have HX : Hid (Blk W0 x 32 #[.string nm, .string vl, .bool il, .slice a1 a2 a3, .bool ex, .bool fx]) := Lib.hid (by rw [hW0]; exact (Blk.new w _ _ hx.symm).alloc _)
  have HY : Hid (Blk W0 (x + 1) 32 #[.string nm, .string vl, .bool il, .slice b1 b2 b3, .bool ex, .bool fx]) := Lib.hid (by rw [hW0]; exact Blk.new _ _ _ (by rw [hx]; simp))
  have HC := Lib.hid (listeq_same ls a1 b1 a2 a3 b2 b3 W0 (SL.keep (v := .slice a1 a2 a3) h1 HB.out) (SL.keep (v := .slice b1 b2 b3) h2 HB.out) hn)
  have HXE := Lib.hid hx
  have HWE := Lib.hid hW0
  clear h1 h2 hx hW0
  go_enter Tryz.func75, Tryz.ntmps75
  go_upto_region 1 with fail
  rw [← HXE.out, ← HWE.out]
  obtain ⟨x0, x1, x2, x3, x4, x5, _⟩ := HX.out.six
  obtain ⟨y0, y1, y2, y3, y4, y5, _⟩ := HY.out.six
  have hii : (il == il) = true := beq_self_eq_true _
  have hee : (ex == ex) = true := beq_self_eq_true _
  have hff : (fx == fx) = true := beq_self_eq_true _
  go_wp2_with (go_at_call 111; refine HC.out.mono ?_; rintro e w1 ⟨rfl, hb⟩; obtain ⟨p0, p1, p2, p3, p4, p5, _⟩ := (HX.out.keep hb).six; obtain ⟨q0, q1, q2, q3, q4, q5, _⟩ := (HY.out.keep hb).six; have HB1 := Lib.hid (HB.out.trans (hb.mono HB.out.size)); clear hb)
  go_ret
  exact ⟨rfl, HB1.out⟩
theorem tav_expr (x : Value) (w : World) : (Instr.typeAssert (.iface 32 x) 20 115 true).run Tryz.prog w = .ok (.tuple #[.agg #[.string ⟨#[]⟩, .int .i64 0, .string ⟨#[]⟩, .slice none 0 0], .bool false]) w := by kernel_rfl
theorem tav_node (x : Value) (w : World) : (Instr.typeAssert (.iface 32 x) 20 75 true).run Tryz.prog w = .ok (.tuple #[.agg #[.int .i64 0, .bool false, .bool false, .string ⟨#[]⟩, .slice none 0 0, .slice none 0 0, .slice none 0 0, .slice none 0 0, .slice none 0 0, .pointer none], .bool false]) w := by kernel_rfl
theorem tav_word (x : Value) (w : World) : (Instr.typeAssert (.iface 32 x) 20 121 true).run Tryz.prog w = .ok (.tuple #[.slice none 0 0, .bool false]) w := by kernel_rfl
theorem tav_make (x : Value) (w : World) : (Instr.typeAssert (.iface 32 x) 20 127 true).run Tryz.prog w = .ok (.tuple #[.agg #[.slice none 0 0, .slice none 0 0, .slice none 0 0], .bool false]) w := by kernel_rfl
theorem tav_step (x : Value) (w : World) : (Instr.typeAssert (.iface 32 x) 20 130 true).run Tryz.prog w = .ok (.tuple #[.slice none 0 0, .bool false]) w := by kernel_rfl
theorem tav_line (x : Value) (w : World) : (Instr.typeAssert (.iface 32 x) 20 135 true).run Tryz.prog w = .ok (.tuple #[.agg #[.string ⟨#[]⟩, .int .i64 0, .string ⟨#[]⟩, .bool false, .slice none 0 0, .int .i64 0, .string ⟨#[]⟩], .bool false]) w := by kernel_rfl
theorem tav_shell (x : Value) (w : World) : (Instr.typeAssert (.iface 32 x) 20 28 true).run Tryz.prog w = .ok (.tuple #[.agg #[.string ⟨#[]⟩, .slice none 0 0, .slice none 0 0, .slice none 0 0, .slice none 0 0, .int .i64 0, .int .i64 0, .int .i64 0, .string ⟨#[]⟩], .bool false]) w := by kernel_rfl
theorem tav_var (x : Value) (w : World) : (Instr.typeAssert (.iface 32 x) 20 32 true).run Tryz.prog w = .ok (.tuple #[x, .bool true]) w := by kernel_rfl
set_option maxRecDepth 100000 in
set_option maxHeartbeats 3200000 in
theorem sameTree_same (x : VarV) (s1 s2 : SV) (w : World) (h1 : SL w (sv s1) x.ls) (h2 : SL w (sv s2) x.ls) (hn : x.ls.length ≤ 2000) :
    Calls Tryz.prog 50 #[.iface 32 (aggV (x, s1)), .iface 32 (aggV (x, s2))] w fun e w' => e = .returned (.bool true) ∧ Below w.heap.size w w' := by
  have HC := Lib.hid (fun W (h : Below w.heap.size w W) => eqVar_same x s1 s2 W (h1.keep h) (h2.keep h) hn)
  obtain ⟨nm, vl, il, ls, ex, fx⟩ := x
  obtain ⟨a1, a2, a3⟩ := s1
  obtain ⟨b1, b2, b3⟩ := s2
  unfold aggV sv at HC ⊢
  have HB := Lib.hid (((Below.refl _ w).alloc (Nat.le_refl _) (.cells #[.string nm, .string vl, .bool il, .slice a1 a2 a3, .bool ex, .bool fx] 32)).alloc (by simp) (.cells #[.string nm, .string vl, .bool il, .slice b1 b2 b3, .bool ex, .bool fx] 32))
  clear h1 h2
  have t0 := tav_expr
  have t1 := tav_node
  have t2 := tav_word
  have t3 := tav_make
  have t4 := tav_step
  have t5 := tav_line
  have t6 := tav_shell
  have t7 := tav_var
  go_enter Tryz.func50, Tryz.ntmps50
  go_wp2_with (go_at_call 75; refine (HC.out _ HB.out).mono ?_; rintro e w1 ⟨rfl, hb⟩; have HB1 := Lib.hid (HB.out.trans (hb.mono HB.out.size)); clear hb)
  go_ret
  exact ⟨rfl, HB1.out⟩
set_option maxRecDepth 100000 in
theorem same_same (x : VarV) (s1 s2 : SV) (w : World) (h1 : SL w (sv s1) x.ls) (h2 : SL w (sv s2) x.ls) (hn : x.ls.length ≤ 2000) :
    Calls Tryz.prog 11 #[.iface 32 (aggV (x, s1)), .iface 32 (aggV (x, s2))] w fun e w' => e = .returned (.bool true) ∧ Below w.heap.size w w' := by
  have HC := Lib.hid (sameTree_same x s1 s2 w h1 h2 hn)
  clear h1 h2
  go_enter Tryz.func11, Tryz.ntmps11
  go_wp2_with (go_at_call 50; refine HC.out.mono ?_; rintro e w1 ⟨rfl, hb⟩)
  go_ret
  exact ⟨rfl, hb⟩
end Go.Proofs.YtiapondfajmkaaaGreatDoor
