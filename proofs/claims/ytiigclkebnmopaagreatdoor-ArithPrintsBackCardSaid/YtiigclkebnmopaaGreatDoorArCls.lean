/- Arithmetic expressions: the closure of Arith. (Begun; see NOTES.md.) -/
import Derived.Test.YtiigclkebnmopaaGreatDoorArPri
import Derived.Test.YtiigclkebnmopaaGreatDoorArPlain
import Derived.Test.YtiigclkebnmopaaGreatDoorOnly
import Derived.Test.YtiigclkebnmopaaGreatDoorProg
import Derived.WalkKit
import Derived.WalkLawsBesides
import Derived.BigQuiet
import Derived.Defers
import Derived.Recover
namespace Go.Proofs.YtiigclkebnmopaaGreatDoor
open Go.RowKit Go.Shelf

/-- what Arith reads: an expression, and nothing behind it -/
def endK (x : Ex) (l1 : List UInt8) : Out := if gap l1 = [] then .ok x [] else .bad (gap l1)
def allO (T : List UInt8) : Out := (parse (40 * T.length + 40) .expr T).bind endK
/-- what the closure gives: the expression stored in its box, or a panic -/
def CG (b y : Nat) (T : List UInt8) (o : Out) (w : World) (e : Ending) (w' : World) : Prop := match o with
  | .ok x _ => ∃ v0 v1 v2 v3, e = .returned (.tuple #[]) ∧ Four w' y v0 v1 v2 v3 ∧ ExV (Nw w) w' (.agg #[v0, v1, v2, v3]) x ∧ ∃ wm, Only b w wm ∧ ∃ wn, Only y wm wn ∧ Only b wn w'
  | .stuck l1 => e = pan (plc T l1) 1 ∧ ∃ wm, Only b w wm ∧ ∃ wn, Only y wm wn ∧ Only b wn w'
  | .bad l1 => e = pan (plc T l1) 1 ∧ ∃ wm, Only b w wm ∧ ∃ wn, Only y wm wn ∧ Only b wn w'
  | .more => e = pan T.length 27 ∧ ∃ wm, Only b w wm ∧ ∃ wn, Only y wm wn ∧ Only b wn w'
  | .none => False

theorem PG.toCG {b y : Nat} {T : List UInt8} {o0 o : Out} {w w' : World} {e : Ending} (hno : ∀ x l, o0 ≠ .ok x l) (ho : o0.bind endK = o) (h : PG b T o w e w') : CG b y T o w e w' := by
  subst ho
  cases o0 with
  | ok x l => exact absurd rfl (hno x l)
  | none => exact h.elim
  | stuck l => exact ⟨h.1, w', h.2, w', Only.refl _ _, Only.refl _ _⟩
  | bad l => exact ⟨h.1, w', h.2, w', Only.refl _ _, Only.refl _ _⟩
  | more => exact ⟨h.1, w', h.2, w', Only.refl _ _, Only.refl _ _⟩

set_option maxRecDepth 100000 in
set_option maxHeartbeats 6400000 in
theorem closure_any (b b6 y : Nat) (T : List UInt8) (w : World) (h : Rd w b T T) (hm : MX b w) (h6 : w.cell? ⟨b6, 0, none⟩ = some (.pointer (some ⟨b, 0, none⟩))) (h6l : b6 < w.heap.size) (h6b : b6 ≠ b) (h6y : b6 ≠ y) (hy : Four w y (.string ⟨#[]⟩) (.int .i64 0) (.string ⟨#[]⟩) (.slice none 0 0)) (hyb : y ≠ b) (hn : parse (40 * T.length + 40) .expr T ≠ .none) :
    Calls Tryz.prog 19 #[.pointer (some ⟨b6, 0, none⟩), .pointer (some ⟨y, 0, none⟩)] w (CG b y T (allO T) w) := by
  have HE := Lib.hid ((reads_any b T _).expr T w h hm hn)
  have HY := Lib.hid hy
  have HH := Lib.hid h
  obtain ⟨o0, ho0⟩ : ∃ o0, parse (40 * T.length + 40) .expr T = o0 := ⟨_, rfl⟩
  rw [ho0] at HE
  obtain ⟨o, ho⟩ : ∃ o, allO T = o := ⟨_, rfl⟩
  have HO := Lib.hid (show o0.bind endK = o by rw [← ho0]; exact ho)
  obtain ⟨Q, hQ⟩ : ∃ Q, CG b y T o w = Q := ⟨_, rfl⟩
  rw [ho, hQ]
  have HQ := Lib.hid hQ
  have H6 := Lib.hid h6
  clear hQ ho ho0 hn h hm hy
  go_enter Tryz.func19, Tryz.ntmps19
  go_wp2_with fail
  refine HE.out.mono ?_
  intro e w2 hp
  clear h6
  rcases out_cases o0 with ⟨x, l1, rfl⟩ | hno
  · obtain ⟨v, rfl, hx, hr2, ho2⟩ := hp
    obtain ⟨n, A, k, c, nm, rfl, hnm⟩ := hx.form
    have HY2 := Lib.hid (HY.out.only ho2 hyb)
    have h62 := (World.cell?_of_block (a := ⟨b6, 0, none⟩) (ho2.block b6 h6l h6b)).trans H6.out
    have HR2 := Lib.hid hr2
    have HO2 := Lib.hid ho2
    have HX2 := Lib.hid hx
    clear hx hr2 ho2 hnm
    obtain ⟨d0, d1, d2, d3, df⟩ := HY2.out.cells
    go_upto_region 1 with fail
    change Code.wp _ _ _ _ (set4 w2 y _ _ _ _)
    have O3 := Only.set4 w2 y (.string (toB x.op)) (.int .i64 (n : Int)) (.string (toB nm)) (.slice A k c)
    have HY3 := Lib.hid (HY2.out.set (.string (toB x.op)) (.int .i64 (n : Int)) (.string (toB nm)) (.slice A k c))
    have HR3 := Lib.hid (HR2.out.only O3 (by omega))
    have HX3 := Lib.hid (HX2.out.only O3 (fun hh => by have h1 := HY.out.lt; have h2 : w.heap.size ≤ y := hh; omega))
    have h63 := (World.cell?_of_block (a := ⟨b6, 0, none⟩) (O3.block b6 (Nat.lt_of_lt_of_le h6l HO2.out.size) h6y)).trans h62
    have HO3 := Lib.hid O3
    have hl3 : b6 < (set4 w2 y (.string (toB x.op)) (.int .i64 (n : Int)) (.string (toB nm)) (.slice A k c)).heap.size := Nat.lt_of_lt_of_le (Nat.lt_of_lt_of_le h6l HO2.out.size) O3.size
    clear O3 d0 d1 d2 d3 df h62 HX2 HR2 HY2
    generalize set4 w2 y (.string (toB x.op)) (.int .i64 (n : Int)) (.string (toB nm)) (.slice A k c) = w3 at *
    go_wp2_with fail
    refine (sign_any b T l1 w3 HR3.out).mono ?_
    rintro e w4 ⟨rfl, hr4, ho4⟩
    have h64 := (World.cell?_of_block (a := ⟨b6, 0, none⟩) (ho4.block b6 hl3 h6b)).trans h63
    have HR4 := Lib.hid hr4
    have HO4 := Lib.hid ho4
    have hl4 : b6 < w4.heap.size := Nat.lt_of_lt_of_le hl3 ho4.size
    clear hr4 ho4 h63
    go_wp2_with fail
    refine (peek_any b T (gap l1) w4 HR4.out).mono ?_
    rintro e w5 ⟨rfl, hr5, ho5⟩
    rw [skipJ_gap] at hr5 ⊢
    have h65 := (World.cell?_of_block (a := ⟨b6, 0, none⟩) (ho5.block b6 hl4 h6b)).trans h64
    have HO5 := Lib.hid (HO4.out.trans ho5)
    have HR5 := Lib.hid hr5
    clear hr5 ho5 h64
    cases hg : gap l1 with
    | nil =>
      have HOk := Lib.hid (show o = .ok x [] from HO.out.symm.trans (if_pos hg))
      rw [show headI [] = -1 from rfl]
      clear hg
      go_wp2_with fail
      have hn4 : ¬ b = y := fun h => hyb h.symm
      go_end0
      rw [← HQ.out, HOk.out]
      refine ⟨_, _, _, _, rfl, HY3.out.only HO5.out hyb, HX3.out.only HO5.out (fun hh => by have h1 := HH.out.lt; have h2 : w.heap.size ≤ b := hh; omega), w2, HO2.out, w3, HO3.out, HO5.out⟩
    | cons c1 r1 =>
      have HOk := Lib.hid (show o = .bad (c1 :: r1) from HO.out.symm.trans ((if_neg (by rw [hg]; simp)).trans (by rw [hg])))
      have hne : ((c1.toNat : Int) == -1) = false := by rw [beq_eq_false_iff_ne]; omega
      rw [show headI (c1 :: r1) = (c1.toNat : Int) from rfl]
      rw [hg] at HR5
      obtain ⟨p, lf, hp, hlf1, hlf2, hd, k0, k1, k2, k4, kf, hbx⟩ := HR5.out.cells
      have hpl : (p : Int) = plc T (c1 :: r1) := by unfold plc; omega
      have HPL := Lib.hid hpl
      clear hg hbx hd hlf1 hlf2 hpl hp
      go_upto_region 3 with fail
      have HW := Lib.hid (show ∃ wm, Only b w wm ∧ ∃ wn, Only y wm wn ∧ Only b wn w5.drew from ⟨w2, HO2.out, w3, HO3.out, HO5.out.trans ((Only.refl b w5).drewN 1)⟩)
      go_region_with (first
        | (go_at_call 23; refine (fail_any _ _ _).mono ?_; rintro e w7 ⟨rfl, rfl⟩; unfold pan; go_wp2_with fail; refine region_ends w5 ?_ ?_; (refine ⟨rfl, ?_⟩; rw [← HQ.out, HOk.out, HPL.out]; exact ⟨rfl, HW.out⟩)))
      all_goals trivial
  · obtain ⟨p, c, rfl, ho3, HF⟩ := PG.fail hno hp
    have HFF := Lib.hid (PG.toCG (y := y) hno HO.out (by rw [← HO.out]; exact HF endK w ho3))
    clear hp hno ho3 HF
    unfold pan
    go_wp2_with fail
    rw [← HQ.out]
    exact ⟨rfl, HFF.out⟩

end Go.Proofs.YtiigclkebnmopaaGreatDoor

namespace Go.Proofs.YtiigclkebnmopaaGreatDoor
open Go.RowKit Go.Shelf

/-- what is asked of a text before it is read -/
def chkO (T : List UInt8) : Int := if 16384 < T.length then 2 else if 0 ≤ Lib.indexByte T 0 then 5 else 0
set_option maxHeartbeats 1600000 in
theorem checkText_any (T : List UInt8) (hT : T.length < 9223372036854775808) (w : World) : Calls Tryz.prog 17 #[.string (toB T)] w fun e w' => e = .returned (.int .i64 (chkO T)) ∧ w' = w := by
  have hsz := toB_size T
  have hI := Tryz.strings_IndexByte (toB T) 0 w
  rw [show (toB T).data.toList = T from by simp [toB], show ((0 : Int).toNat.toUInt8) = (0 : UInt8) from rfl] at hI
  by_cases h1 : 16384 < T.length
  · have e1 : (16384 : Int) < ((toB T).size : Int) := by omega
    go_enter Tryz.func17, Tryz.ntmps17
    go_wp2_with fail
    go_ret
    exact ⟨by unfold chkO; rw [if_pos h1]; rfl, rfl⟩
  · have e1 : ¬ (16384 : Int) < ((toB T).size : Int) := by omega
    by_cases h2 : 0 ≤ Lib.indexByte T 0
    · go_enter Tryz.func17, Tryz.ntmps17
      go_wp2_with fail
      refine hI.mono ?_
      rintro e w' ⟨rfl, rfl⟩
      go_wp2_with fail
      go_ret
      exact ⟨by unfold chkO; rw [if_neg h1, if_pos h2]; rfl, rfl⟩
    · go_enter Tryz.func17, Tryz.ntmps17
      go_wp2_with fail
      refine hI.mono ?_
      rintro e w' ⟨rfl, rfl⟩
      go_wp2_with fail
      go_ret
      exact ⟨by unfold chkO; rw [if_neg h1, if_neg (by omega)]; rfl, rfl⟩

end Go.Proofs.YtiigclkebnmopaaGreatDoor

namespace Go.Proofs.YtiigclkebnmopaaGreatDoor
open Go.RowKit

/-- a problem in a box -/
def Prb (w : World) (x : Nat) (a c : Int) : Prop := w.heap[x]? = some (.cells #[.int .i64 a, .int .i64 c] 54 (0, 0))
theorem Prb.lt {w : World} {x : Nat} {a c : Int} (h : Prb w x a c) : x < w.heap.size := (Array.getElem?_eq_some_iff.1 h).1
theorem Prb.cells {w : World} {x : Nat} {a c : Int} (h : Prb w x a c) : w.cell? ⟨x, 0, none⟩ = some (.int .i64 a) ∧ w.cell? ⟨x, 1, none⟩ = some (.int .i64 c) ∧ ∀ i, w.frozen? ⟨x, i, none⟩ = false := by
  unfold Prb at h
  refine ⟨?_, ?_, ?_⟩
  all_goals first | simp [World.cell?, h] | simp [World.frozen?, h]
theorem Prb.set {w : World} {x : Nat} {a c : Int} (h : Prb w x a c) (a' c' : Int) : Prb ((w.setCell ⟨x, 0, none⟩ (.int .i64 a')).setCell ⟨x, 1, none⟩ (.int .i64 c')) x a' c' := by
  unfold Prb at h ⊢
  rw [heap_setCell_same _ _ _ _ _ _ (heap_setCell_same _ _ _ _ _ _ h)]
  rfl
theorem Prb.new (w : World) (a c : Int) : Prb (w.alloc (.cells #[.int .i64 a, .int .i64 c] 54)) w.heap.size a c := heap_alloc_new w _

theorem ta_prob (x : Value) (w : World) : (Instr.typeAssert (.iface 54 x) 20 54 true).run Tryz.prog w = .ok (.tuple #[x, .bool true]) w := by kernel_rfl
set_option maxRecDepth 100000 in
set_option maxHeartbeats 3200000 in
theorem catch_panicking (x : Nat) (a0 c0 a c : Int) (older : List PanicEntry) (w : World) (h : Prb w x a0 c0) :
    CallsD Tryz.prog 52 #[.pointer (some ⟨x, 0, none⟩)] (.panicking ({ v := .iface 54 (.agg #[.int .i64 a, .int .i64 c]), recovered := false } :: older)) w fun e u' w' =>
      e = .returned (.tuple #[]) ∧ u' = .panicking ({ v := .iface 54 (.agg #[.int .i64 a, .int .i64 c]), recovered := true } :: older) ∧ w' = (w.setCell ⟨x, 0, none⟩ (.int .i64 a)).setCell ⟨x, 1, none⟩ (.int .i64 c) := by
  obtain ⟨c0, c1, cf⟩ := h.cells
  have hta := ta_prob
  refine callsD_of_wpS Tryz.func52 rfl fun c₀ cs hu => ?_
  apply wpS_seq
  apply wpS_region
  simp [wpOpsS, go_sem, recoverD, hu, Tryz.ntmps52, Exit.thenS]
  apply wpS_seq
  apply wpS_region
  simp [wpOpsS, go_sem, Exit.thenS]
  refine wpS_cond (t := true) (by simp [Act.eval, Array.replicate]) ?_
  simp only [if_true]
  refine wpS_of_wp ?_
  simp only [Array.replicate_succ, Array.replicate_zero, List.push_toArray, List.append_toArray, List.nil_append, List.cons_append, List.setIfInBounds_toArray, List.set_cons_zero, List.set_cons_succ]
  go_wp2_with fail
  exact ⟨rfl, _, rfl, .tuple #[], results_none rfl _ _ _, rfl, rfl, rfl⟩

theorem catch_idle (x : Nat) (w : World) :
    CallsD Tryz.prog 52 #[.pointer (some ⟨x, 0, none⟩)] .returning w fun e u' w' => e = .returned (.tuple #[]) ∧ u' = .returning ∧ w' = w := by
  refine callsD_of_wpS Tryz.func52 rfl fun c₀ cs hu => ?_
  apply wpS_seq
  apply wpS_region
  simp [wpOpsS, go_sem, recoverD, hu, Tryz.ntmps52, Exit.thenS]
  apply wpS_seq
  apply wpS_region
  simp [wpOpsS, go_sem, Exit.thenS]
  refine wpS_cond (t := false) (by simp [Act.eval, Array.replicate]) ?_
  simp only [Bool.false_eq_true, if_false]
  refine wpS_of_wp (wp_skip ?_)
  exact ⟨rfl, .returning, by rw [← hu], .tuple #[], results_none rfl _ _ _, rfl, rfl, rfl⟩

def pan0 (place e : Int) : Ending := .panicked [{ v := .iface 54 (.agg #[.int .i64 place, .int .i64 e]), recovered := false }]
set_option maxRecDepth 100000 in
set_option maxHeartbeats 3200000 in
theorem caught_any (cap : Array Value) (R : Ending → World → Prop) (w : World) (HC : Calls Tryz.prog 19 cap (w.alloc (.cells #[.int .i64 0, .int .i64 0] 54)) R)
    (HR : ∀ e w2, R e w2 → (e = .returned (.tuple #[]) ∨ ∃ a c, e = pan0 a c) ∧ Prb w2 w.heap.size 0 0) :
    Calls Tryz.prog 18 #[.func (.func 19) #[] cap] w fun e w' => ∃ e1 w2, R e1 w2 ∧ ((e1 = .returned (.tuple #[]) ∧ e = .returned (.agg #[.int .i64 0, .int .i64 0])) ∨ ∃ a c, e1 = pan0 a c ∧ e = .returned (.agg #[.int .i64 a, .int .i64 c])) ∧ Only w.heap.size w2 w' := by
  have hmf : ∀ (fn : Fn) (first cap : Array Value) (w : World), (Instr.makeFunc fn first cap).run Tryz.prog w = .ok (.func fn first cap) w := fun _ _ _ _ => rfl
  go_enter_defers Tryz.func18, Tryz.ntmps18
  go_wp2_with fail
  refine HC.mono ?_
  intro e w2 hr
  obtain ⟨he, hp⟩ := HR e w2 hr
  obtain ⟨d0, d1, df⟩ := hp.cells
  rcases he with rfl | ⟨a, c, rfl⟩
  · go_wp2_with fail
    have HZ := Lib.hid (hp.set 0 0)
    have HO : Only w.heap.size w2 ((w2.setCell ⟨w.heap.size, 0, none⟩ (.int .i64 0)).setCell ⟨w.heap.size, 1, none⟩ (.int .i64 0)) := ((Only.refl _ w2).setCell _).setCell _
    have HOO := Lib.hid HO
    clear HO
    generalize (w2.setCell ⟨w.heap.size, 0, none⟩ (.int .i64 0)).setCell ⟨w.heap.size, 1, none⟩ (.int .i64 0) = wz at *
    refine leaves_cons (f := 52) (args := #[.pointer (some ⟨w.heap.size, 0, none⟩)]) (by simp) (by simp [go_sem]) ?_
    refine (catch_idle w.heap.size _).mono ?_
    rintro e u' w'' ⟨rfl, rfl, rfl⟩
    obtain ⟨q0, q1, qf⟩ := HZ.out.cells
    simp [Leaves, settle, results, Tryz.results18, go_sem, q0, q1]
    exact ⟨_, _, hr, .inl rfl, HOO.out⟩
  · unfold pan0
    go_wp2_with fail
    refine leaves_cons (f := 52) (args := #[.pointer (some ⟨w.heap.size, 0, none⟩)]) (by simp) (by simp [go_sem]) ?_
    refine (catch_panicking w.heap.size 0 0 a c [] _ hp).mono ?_
    rintro e u' w'' ⟨rfl, rfl, rfl⟩
    have HZ := Lib.hid (hp.set a c)
    have HO : Only w.heap.size w2 ((w2.setCell ⟨w.heap.size, 0, none⟩ (.int .i64 a)).setCell ⟨w.heap.size, 1, none⟩ (.int .i64 c)) := ((Only.refl _ w2).setCell _).setCell _
    have HOO := Lib.hid HO
    clear HO
    generalize (w2.setCell ⟨w.heap.size, 0, none⟩ (.int .i64 a)).setCell ⟨w.heap.size, 1, none⟩ (.int .i64 c) = wz at *
    obtain ⟨q0, q1, qf⟩ := HZ.out.cells
    simp [Leaves, settle, results, Tryz.results18, go_sem, q0, q1]
    exact ⟨_, _, hr, .inr rfl, HOO.out⟩

end Go.Proofs.YtiigclkebnmopaaGreatDoor
