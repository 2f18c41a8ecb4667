/- Numbers by limbs: the long division. -/
import Derived.Test.YthodlgjfmddemaaGreatDoorRkF
namespace Go.Proofs.YthodlgjfmddemaaGreatDoor.Rk
open Go.RowKit

theorem RL.drew {w : World} {v : Value} {m z : Nat} (h : RL w v m z) : RL w.drew v m z := h
theorem NL.drew {w : World} {v : Value} {z : Nat} (h : NL w v z) : NL w.drew v z := h
/-- the long division, so far -/
structure DV (w3 wr : World) (gu qb L n z V i : Nat) (f h : Nat → Nat) : Prop where
  below : Below w3.heap.size w3 wr
  ub : UB wr gu L f
  lt : ∀ j, j < L → f j < Bq
  rem : vl (win f i) n = z / Bq ^ i % V
  low : ∀ j, j < i → f j = dg z j
  lb : LB wr qb (L - n) h
  quo : ∀ j, i ≤ j → j < L - n → h j = dg (z / V) j
theorem DV.drewN {w3 wr : World} {gu qb L n z V i : Nat} {f h : Nat → Nat} (d : DV w3 wr gu qb L n z V i f h) (q : Nat) : DV w3 (wr.drewN q) gu qb L n z V i f h :=
  ⟨below_drewN d.below q, UB.of_block d.ub rfl, d.lt, d.rem, d.low, World.rowIs.of_block d.lb rfl, d.quo⟩
theorem vl_shift (g : Nat → Nat) : ∀ n, vl g (n + 1) = g 0 + Bq * vl (fun j => g (j + 1)) n
  | 0 => by simp [vl]
  | n + 1 => by
    rw [vl_succ g (n + 1), vl_shift g n, vl_succ (fun j => g (j + 1)) n, Nat.mul_add, Nat.pow_succ, Nat.mul_comm (Bq ^ n) Bq, Nat.mul_left_comm, Nat.add_assoc]
theorem win_shift (f : Nat → Nat) (i : Nat) : (fun j => win f i (j + 1)) = win f (i + 1) := by
  funext j
  unfold win
  congr 1
  omega
/-- the window's value -/
theorem DV.window {w3 wr : World} {gu qb L n z V i : Nat} {f h : Nat → Nat} (d : DV w3 wr gu qb L n z V (i + 1) f h) : vl (win f i) (n + 1) = (z / Bq ^ (i + 1) % V) * Bq + dg z i := by
  rw [vl_shift, win_shift, d.rem, Nat.mul_comm, Nat.add_comm]
  congr 1
  exact d.low i (Nat.lt_succ_self i)
/-- the window's first digits -/
theorem win_split (f : Nat → Nat) (i t : Nat) : vl (win f i) (t + 3) = (f (i + (t + 2)) * Bq + f (i + (t + 1))) * (Bq * Bq ^ t) + f (i + t) * Bq ^ t + vl (win f i) t := by
  rw [show t + 3 = t + 2 + 1 from rfl, vl_succ, show t + 2 = t + 1 + 1 from rfl, vl_succ, vl_succ, Nat.pow_succ, Nat.pow_succ, Nat.add_mul]
  unfold win
  have e : Bq ^ (t + 1) * Bq = Bq * (Bq * Bq ^ t) := by rw [Nat.pow_succ, Nat.mul_comm _ Bq, Nat.mul_comm (Bq ^ t) Bq]
  rw [Nat.mul_comm (Bq ^ t) Bq, Nat.mul_assoc (f (i + (t + 1 + 1))), e]
  omega
theorem val_split {V t : Nat} (h : nl V = t + 2) : V = dg V (t + 1) * (Bq * Bq ^ t) + dg V t * Bq ^ t + V % Bq ^ t := by
  have h1 : V % Bq ^ (t + 2) = V := mod_full (by omega)
  conv => lhs; rw [← h1]
  rw [show t + 2 = t + 1 + 1 from rfl, mod_step, mod_step, Nat.pow_succ, Nat.mul_comm (Bq ^ t) Bq]
  omega
theorem rem_top {g : Nat → Nat} {n R V : Nat} (hv : vl g (n + 1) = R) (hR : R < V) (hV : V < Bq ^ n) : vl g n = R := by
  rw [vl_succ] at hv
  rcases Nat.eq_zero_or_pos (g n) with h0 | h0
  · rw [h0, Nat.zero_mul, Nat.add_zero] at hv
    exact hv
  · have : Bq ^ n ≤ g n * Bq ^ n := Nat.le_mul_of_pos_left _ h0
    omega
/-- a round is done -/
theorem DV.next {w3 wr w' : World} {gu qb L n z V i : Nat} {f f' h : Nat → Nat} (d : DV w3 wr gu qb L n z V (i + 1) f h) (ho : Only gu wr w') (hu : UB w' gu L f') (hl : ∀ j, j < L → f' j < Bq)
    (hold : ∀ j, j < i ∨ i + n < j → f' j = f j) (hv : vl (win f' i) (n + 1) = vl (win f i) (n + 1) % V) (hV : nl V = n) (hV0 : 0 < V) (hg : w3.heap.size ≤ gu) (hq : w3.heap.size ≤ qb) (hne : qb ≠ gu) :
    DV w3 (w'.setCell ⟨qb, i, none⟩ (.int .u32 ((vl (win f i) (n + 1) / V : Nat) : Int))) gu qb L n z V i f' (up h i (vl (win f i) (n + 1) / V)) := by
  obtain ⟨s1, s2⟩ := div_step (z := z) (d := V) (i := i) rfl
  rw [← d.window] at s1 s2
  have hb : Below w3.heap.size w3 w' := d.below.trans ⟨ho.os, ho.tape, ho.output, ho.size, fun k hk => ho.block k (Nat.lt_of_lt_of_le hk d.below.size) (by omega)⟩
  refine ⟨hb.setCell (p := ⟨qb, i, none⟩) hq _, UB.of_block hu (heap_setCell_other w' ⟨qb, i, none⟩ gu _ (fun e => hne e.symm)), hl, ?_, fun j hj => ?_, LB.set (World.rowIs.of_block d.lb (ho.block _ (World.rowIs.lt d.lb) hne)) _ _, fun j h1 h2 => ?_⟩
  · rw [← s2]
    exact rem_top hv (Nat.mod_lt _ hV0) ((lt_pow_iff _ _).2 (by omega))
  · rw [hold j (.inl hj)]; exact d.low j (by omega)
  · by_cases e : j = i
    · subst e; rw [up_self]; exact s1
    · rw [up_ne e]; exact d.quo j (by omega) h2
/-- the guess -/
structure QG (U V top v1 v2 u3 q r : Nat) : Prop where
  eq : q * v1 + r = top
  ge : U / V ≤ q
theorem QG.down {U V top v1 v2 u3 q r : Nat} (h : QG U V top v1 v2 u3 (q + 1) r) (hlt : U / V ≤ q) : QG U V top v1 v2 u3 q (r + v1) := by
  refine ⟨?_, hlt⟩
  have := h.eq
  rw [Nat.add_mul, Nat.one_mul] at this
  omega

set_option maxRecDepth 100000 in
set_option maxHeartbeats 6400000 in
theorem divide_long (u v : Value) (x y : Nat) (w : World) (hu : NL w u x) (hv : NL w v y) (hx : nl x ≤ 100000) (t : Nat) (hy : nl y = t + 2) (hle : y ≤ x) :
    Calls Tryz.prog 51 #[u, v] w (DivP x y w) := by
  obtain ⟨Q, hQ⟩ : ∃ Q, DivP x y w = Q := ⟨_, rfl⟩
  rw [hQ]
  have HQ := Lib.hid hQ
  have HU := Lib.hid hu
  have HV := Lib.hid hv
  have hnx : t + 2 ≤ nl x := by rw [← hy]; exact nl_mono hle
  have hy0 : 0 < y := by
    rcases Nat.eq_zero_or_pos y with h | h
    · rw [h, nl_zero] at hy; omega
    · exact h
  have hx0 : x ≠ 0 := by omega
  obtain ⟨fc, hfc⟩ : ∃ fc, fc = Bq / (dg y (t + 1) + 1) := ⟨_, rfl⟩
  obtain ⟨F1, F2, F3, F4⟩ := factor_nl (n := t + 1) hy hfc
  obtain ⟨A, c, rfl, _, _⟩ := RL.form hv
  obtain ⟨Ax, cx, rfl, _, _⟩ := RL.form hu
  obtain ⟨bv, off, rfl, hbb, hcell⟩ := RL.at (A := A) (n := nl y) (c := c) hv (i := t + 1) (by omega)
  obtain ⟨nx, hnxe⟩ : ∃ nx, nx = nl x := ⟨_, rfl⟩
  rw [← hnxe] at hx hnx HU ⊢
  rw [hy] at HV ⊢
  obtain ⟨n, hn⟩ : ∃ n, n = t + 2 := ⟨_, rfl⟩
  rw [← hn] at hnx HV ⊢
  have HN := Lib.hid hn
  have HNn := Lib.hid hnx
  have HNX := Lib.hid hnxe
  have HY := Lib.hid hy
  clear hQ hu hv
  have e1 : IntKind.i64.wrap ((n : Int) - 1) = ((t + 1 : Nat) : Int) := by
    rw [show (n : Int) - 1 = ((t + 1 : Nat) : Int) by omega]
    exact IntWalk.i64_in _ (by omega)
  have hi1 : ((t + 1 : Nat) : Int) < (n : Int) := by omega
  have hdB := dg_lt y (t + 1)
  obtain ⟨d, hd⟩ : ∃ d, d = dg y (t + 1) := ⟨_, rfl⟩
  rw [← hd] at hcell hfc hdB
  have e2 : IntKind.u32.wrap ((d : Int) + 1) = (d : Int) + 1 := IntWalk.u32_in _ (by unfold Bq at *; omega)
  have e3 : (1000000000 : Int) / ((d : Int) + 1) = (fc : Int) := by rw [hfc]; rfl
  have e4 : IntKind.u32.wrap (fc : Int) = (fc : Int) := IntWalk.u32_in _ (by unfold Bq at *; omega)
  have hn1 : ((n : Int) == 1) = false := beq_eq_false_iff_ne.2 (by omega)
  have hn1' : ¬ (n : Int) = 1 := by omega
  obtain ⟨p1, hp1⟩ : ∃ p1, p1 = t + 1 := ⟨_, rfl⟩
  rw [← hp1] at hcell e1 hi1
  have HP1 := Lib.hid hp1
  have HF := Lib.hid (And.intro F1 (And.intro F2 (And.intro F3 F4)))
  have HFC := Lib.hid hfc
  clear hn hnxe hy hd hfc F1 F2 F3 F4 hp1
  go_enter Tryz.func51, Tryz.ntmps51
  go_wp2_with fail
  refine (compare_any _ _ x y _ HU.out HV.out (by rw [← HNX.out]; omega) (by rw [HY.out, ← HN.out]; omega)).mono ?_
  rintro e w1 ⟨k, q, rfl, hk1, hk2, hw1⟩
  have hk : ¬ k < 0 := fun h => by have := hk1.1 h; omega
  have hb := below_of_drewN hw1
  have hc1 : w1.cell? ⟨bv, off + p1, none⟩ = _ := (hb.cell (p := ⟨bv, off + p1, none⟩) hbb).trans hcell
  have HB := Lib.hid hb
  clear hk1 hk2 hw1 hb hcell hbb
  go_wp2_with fail
  have HFn := Lib.hid (show NL (w1.alloc (.cells #[.int .u32 (fc : Int)] 93)) (.slice (some ⟨w1.heap.size, 0, none⟩) 1 1) fc from by
    have h1 : nl fc = 1 := nl_of_top (by rw [Nat.pow_one]; exact HF.out.2.1) (.inr (by
      have h2 : dg fc 0 = fc := by unfold dg; rw [Nat.pow_zero, Nat.div_one, Nat.mod_eq_of_lt HF.out.2.1]
      show dg fc 0 ≠ 0
      rw [h2]
      have := HF.out.1
      omega))
    unfold NL
    rw [h1]
    exact RL.one w1 fc HF.out.2.1)
  have HFcell := Lib.hid (show w1.heap.size < (w1.alloc (.cells #[.int .u32 (fc : Int)] 93)).heap.size ∧ (w1.alloc (.cells #[.int .u32 (fc : Int)] 93)).cell? ⟨w1.heap.size, 0, none⟩ = some (.int .u32 (fc : Int)) from ⟨by simp, cell_of_row _ w1.heap.size 0 _ _ (0, 0) (heap_alloc_new _ _)⟩)
  have HB1 := Lib.hid (HB.out.alloc HB.out.size (.cells #[.int .u32 (fc : Int)] 93))
  have hw1s : (w1.alloc (.cells #[.int .u32 (fc : Int)] 93)).heap.size = w1.heap.size + 1 := by simp
  generalize hw2 : w1.alloc (.cells #[.int .u32 (fc : Int)] 93) = w2 at *
  have HW2 := Lib.hid (And.intro hw2 hw1s)
  obtain ⟨fb, hfb⟩ : ∃ fb, fb = w1.heap.size := ⟨_, rfl⟩
  rw [← hfb] at HFn HFcell ⊢
  have HFB := Lib.hid hfb
  clear hw2 hw1s hfb
  refine (times_any _ _ x fc _ (HU.out.keep HB1.out) HFn.out (by rw [← HNX.out]; omega) (by have := RL.len HFn.out; omega)).mono ?_
  rintro e w3 ⟨uu, rfl, huu, hb3⟩
  obtain ⟨z, hz⟩ : ∃ z, z = x * fc := ⟨_, rfl⟩
  obtain ⟨V, hV⟩ : ∃ V, V = y * fc := ⟨_, rfl⟩
  rw [← hz] at huu
  obtain ⟨Au, cu, rfl, _, _⟩ := RL.form huu
  obtain ⟨nz, hnz⟩ : ∃ nz, nz = nl z := ⟨_, rfl⟩
  have hzL : nl z ≤ nx + 1 := by
    refine (lt_pow_iff _ _).1 ?_
    rw [hz, Nat.pow_succ]
    exact Nat.mul_lt_mul_of_lt_of_le ((lt_pow_iff _ _).2 (by rw [HNX.out]; exact Nat.le_refl _)) (Nat.le_of_lt HF.out.2.1) (by decide)
  have hz0 : z ≠ 0 := by rw [hz]; exact Nat.mul_ne_zero hx0 (by have := HF.out.1; omega)
  rw [← hnz] at hzL huu ⊢
  have HUU := Lib.hid huu
  have HZ := Lib.hid hz
  have HVE := Lib.hid hV
  have HNZ := Lib.hid hnz
  have HB3 := Lib.hid (HB1.out.trans (hb3.mono HB1.out.size))
  have HB23 := Lib.hid hb3
  clear huu hz hV hnz hb3
  go_wp2_with fail
  refine (times_any _ _ y fc _ (HV.out.keep HB3.out) (HFn.out.keep HB23.out) (by rw [HY.out, ← HN.out]; omega) (by have := RL.len HFn.out; omega)).mono ?_
  rintro e w4 ⟨vv, rfl, hvv, hb4⟩
  rw [← HVE.out] at hvv
  obtain ⟨Av, cv, rfl, _, _⟩ := RL.form hvv
  have hnV : nl V = n := by rw [HVE.out, HN.out]; exact HF.out.2.2.1
  rw [hnV] at hvv ⊢
  have HNV := Lib.hid hnV
  have HVV := Lib.hid hvv
  have HB4 := Lib.hid (HB3.out.trans (hb4.mono HB3.out.size))
  have HB24 := Lib.hid (HB23.out.trans (hb4.mono HB23.out.size))
  have HUU4 := Lib.hid (HUU.out.keep hb4)
  clear hvv hnV hb4 HUU HB3 HB23
  go_wp2_with fail
  refine (clone_any _ z _ HUU4.out hz0 (by rw [← HNZ.out]; omega)).mono ?_
  rw [← HNZ.out]
  rintro e w5 ⟨g5, cap5, rfl, hown5, hb5⟩
  have HO5 := Lib.hid hown5
  have HB5 := Lib.hid hb5
  clear hown5 hb5
  obtain ⟨m, hm⟩ : ∃ m, m = nx + 1 - nz := ⟨_, rfl⟩
  have e5 : IntKind.i64.wrap ((nx : Int) + 1) = (nx : Int) + 1 := IntWalk.i64_in _ (by omega)
  have e6 : IntKind.i64.wrap ((nx : Int) + 1 - (nz : Int)) = (m : Int) := by
    rw [show (nx : Int) + 1 - (nz : Int) = (m : Int) by omega]
    exact IntWalk.i64_in _ (by omega)
  have HM := Lib.hid hm
  obtain ⟨i0, hi, hz0', hz1, hz2⟩ := info_parts infoU32
  obtain ⟨gu, capu, w6, hrun, hown6, hg6⟩ := run_append_zeros (P := Tryz.prog) w5 w4.heap.size 46 3 46 93 i0 (.int .u32 0) .i64 .i64 Tryz.underlying46 Tryz.underlying3 hi hz0' hz1 rfl rfl g5 nz cap5 _ HO5.out m (by omega) (by rw [hz2]; omega) HB5.out.size
  rw [limbs_zeros (by rw [HNZ.out]; exact Nat.le_refl _)] at hown6
  obtain ⟨L, hL⟩ : ∃ L, L = nz + m := ⟨_, rfl⟩
  rw [← hL] at hown6 hrun
  obtain ⟨K, hK⟩ : ∃ K, K = L - n := ⟨_, rfl⟩
  have hLx : L = nx + 1 := by omega
  have e7 : IntKind.i64.wrap ((L : Int) - (n : Int)) = (K : Int) := by
    rw [show (L : Int) - (n : Int) = (K : Int) by omega]
    exact IntWalk.i64_in _ (by omega)
  have e8 : IntKind.i64.wrap ((K : Int) - 1) = (K : Int) - 1 := IntWalk.i64_in _ (by omega)
  have hmk := run_make_row' (P := Tryz.prog) 46 93 (.int .u32 0) 4 Tryz.underlying46 infoU32 rfl .i64 .i64 K (by omega) (by omega)
  have hgu : w4.heap.size ≤ gu := (hown6.lt gu rfl).1
  have hgul : gu < w6.heap.size := (hown6.lt gu rfl).2
  have hg5 : w4.heap.size ≤ g5 := (HO5.out.lt g5 rfl).1
  have HB6 := Lib.hid (HB5.out.grown hg6 HB5.out.size (fun k hk => by injection hk with hk; omega))
  have HU6 := Lib.hid (UB.of_own hown6)
  have hcapu : L ≤ capu := by
    rcases hown6.2 with ⟨hnil, _⟩ | ⟨g0, cap0, cur, e0, _, _, hnc, _⟩
    · cases hnil
    · injection e0 with _ _ e3
      rw [e3]
      exact hnc
  have HLx := Lib.hid hLx
  have HK := Lib.hid hK
  have HL := Lib.hid hL
  clear hown6 hg6 hm hLx hK hL hg5
  go_wp2_with (at_builtin; refine Lib.wpList_append_run _ rfl _ _ 46 3 rfl _ _ rfl rfl _ _ hrun ?_)
  go_wp2_with fail
  have hqb : w4.heap.size ≤ w6.heap.size := HB6.out.size
  have HZK := Lib.hid (show z / V < Bq ^ K from by
    have := first_window (x := x) (y := y) (n := t + 1) (f := fc) (m := nx) HF.out.2.2.2 HF.out.1 (by rw [HNX.out]; exact Nat.le_refl _) (by have := HN.out; omega)
    rw [HZ.out, HVE.out, HK.out, HLx.out, HN.out]
    rw [Nat.div_lt_iff_lt_mul (pow_pos' _)] at this
    rw [Nat.div_lt_iff_lt_mul (Nat.mul_pos hy0 HF.out.1), Nat.mul_comm (Bq ^ _)]
    exact this)
  have HD0 := Lib.hid (show DV w4 (w6.alloc (.cells (madeCells #[.int .u32 0] K) 93)) gu w6.heap.size L n z V K (dg z) (fun _ => 0) from by
    have hfirst : z / Bq ^ K < V := by
      have := first_window (x := x) (y := y) (n := t + 1) (f := fc) (m := nx) HF.out.2.2.2 HF.out.1 (by rw [HNX.out]; exact Nat.le_refl _) (by have := HN.out; omega)
      rw [HZ.out, HVE.out, HK.out, HLx.out, HN.out]
      exact this
    have hzK : z / Bq ^ K < Bq ^ n := Nat.lt_trans hfirst ((lt_pow_iff _ _).2 (by rw [HNV.out]; exact Nat.le_refl _))
    refine ⟨HB6.out.alloc HB6.out.size _, UB.of_block HU6.out (Below.heap_alloc w6 _ gu hgul), fun j _ => dg_lt z j, ?_, fun _ _ => rfl, ?_, fun j h1 h2 => ?_⟩
    · rw [Nat.mod_eq_of_lt hfirst]
      have h1 : vl (win (dg z) K) n = vl (dg (z / Bq ^ K)) n := vl_congr fun j _ => by
        unfold win dg
        rw [Nat.pow_add, Nat.div_div_eq_div_mul]
      rw [h1, vl_dg, Nat.mod_eq_of_lt hzK]
    · rw [← HK.out]; exact LB.made w6 K
    · rw [← HK.out] at h2; omega)
  obtain ⟨qb, hqbe⟩ : ∃ qb, qb = w6.heap.size := ⟨_, rfl⟩
  rw [← hqbe] at HD0 hqb hgul ⊢
  generalize hw7 : w6.alloc (.cells (madeCells #[.int .u32 0] K) 93) = w7 at *
  clear hw7 hqbe
  go_loopw [12] (fun s12 wr => ∃ (i : Nat) (f h : Nat → Nat), s12 = .int .i64 ((i : Int) - 1) ∧ Hid (i ≤ K) ∧ Hid (DV w4 wr gu qb L n z V i f h)) (fun s12 _ => (intOf s12 + 1).toNat)
  case atStart => exact ⟨K, dg z, fun _ => 0, rfl, Lib.hid (Nat.le_refl _), HD0⟩
  case round =>
    clear HD0
    obtain ⟨i, f, h, rfl, HI, HD⟩ := hrel
    cases i with
    | zero =>
      have hneg : ¬ (-1 : Int) ≥ 0 := by omega
      rw [show (((0 : Nat) : Int) - 1) = -1 by omega]
      have hcz : (n : Int) ≤ (capu : Int) := by have := HLx.out; have := HNn.out; omega
      have hV0 : 0 < V := by rw [HVE.out]; exact Nat.mul_pos hy0 HF.out.1
      have hzV : z % V < Bq ^ n := Nat.lt_trans (Nat.mod_lt _ hV0) ((lt_pow_iff _ _).2 (by rw [HNV.out]; exact Nat.le_refl _))
      have hrem := HD.out.rem
      rw [Nat.pow_zero, Nat.div_one] at hrem
      have hdg := dg_of_vl (f := win f 0) (m := n) (fun j hj => HD.out.lt (0 + j) (by have := HLx.out; have := HNn.out; omega)) hrem
      have HR1 := Lib.hid (show RL wr (.slice (some ⟨gu, 0, none⟩) n capu) n (z % V) from ⟨_, _, rfl, by have := HLx.out; have := HNn.out; omega, fun h => (by cases h), fun _ => ⟨gu, 0, rfl, HD.out.ub.lt, fun j hj => by
        rw [Nat.zero_add, HD.out.ub.cell (i := j) (by have := HLx.out; have := HNn.out; omega)]
        have := hdg j hj
        unfold win at this
        rw [Nat.zero_add] at this
        rw [this]⟩⟩)
      have HR2 := Lib.hid hzV
      have HNr := Lib.hid (NL.trimmed HR1.out HR2.out)
      have hfcell : wr.cell? ⟨fb, 0, none⟩ = some (.int .u32 (fc : Int)) := by
        have h1 := HFcell.out
        have h2 := HB24.out
        exact (HD.out.below.cell (p := ⟨fb, 0, none⟩) (Nat.lt_of_lt_of_le h1.1 h2.size)).trans ((h2.cell (p := ⟨fb, 0, none⟩) h1.1).trans h1.2)
      have HQr := Lib.hid (show RL wr (.slice (some ⟨qb, 0, none⟩) K K) K (z / V) from by
        have hlb := HD.out.lb
        rw [← HK.out] at hlb
        exact LB.rl hlb fun j hj => HD.out.quo j (Nat.zero_le _) (by rw [← HK.out]; exact hj))
      have HNq := Lib.hid (NL.trimmed HQr.out HZK.out)
      have HE1 := Lib.hid (show z / V = x / y by rw [HZ.out, HVE.out]; exact mul_div_same HF.out.1)
      have HE2 := Lib.hid (show z % V / fc = x % y by rw [HZ.out, HVE.out]; exact mul_mod_same HF.out.1)
      have hnr : nl (z % V) ≤ 1000000 := by
        have := (lt_pow_iff _ _).1 hzV
        omega
      have hfc1 := HF.out.1
      have hfc2 : fc ≤ Bq := Nat.le_of_lt HF.out.2.1
      have hn9 : n ≤ 9223372036854775807 := by omega
      have hK9 : K ≤ 9223372036854775807 := by have := HK.out; have := HLx.out; omega
      have HBw := Lib.hid (HB4.out.trans (HD.out.below.mono HB4.out.size))
      clear hcapu hdg hrem hzV hV0 HD HI
      go_wp2_with fail
      go_region_with (first | (go_at_call 63; refine (trimmed_any _ n capu (z % V) _ HR1.out.drew HR2.out hn9).mono ?_; rintro e w' ⟨rfl, rfl⟩) | (go_at_call 64; refine (short_any _ (z % V) fc _ HNr.out.drew hnr hfc1 hfc2).mono ?_; rintro e w9 ⟨ur, rfl, hur, hb9⟩))
      all_goals
        simp only [Act.put, List.getElem_toArray, List.getElem_cons_zero, List.getElem_cons_succ, List.setIfInBounds_toArray, List.set_cons_zero, List.set_cons_succ]
        have HQ9 := Lib.hid (HQr.out.drew.keep hb9)
        have HFin := Lib.hid (show DivP x y w (.returned (.tuple #[.slice (some ⟨qb, 0, none⟩) (nl (z / V)) K, ur])) w9 from ⟨_, _, rfl, HE1.out ▸ NL.trimmed HQ9.out HZK.out, HE2.out ▸ hur, HBw.out.trans ((below_drewN (Below.refl _ wr) 1).trans (hb9.mono (Nat.le_refl _)) |>.mono HBw.out.size)⟩)
        clear hur hb9
        go_wp2_with (go_at_call 63; refine (trimmed_any _ K K (z / V) _ HQ9.out HZK.out hK9).mono ?_; rintro e w' ⟨rfl, rfl⟩)
        rw [← HQ.out]
        exact HFin.out
    | succ i =>
      rw [show (((i + 1 : Nat) : Int) - 1) = (i : Int) by omega]
      have hiK : i < K := HI.out
      have hVn := HVV.out
      obtain ⟨bw, ow, hAve, hbw, hv1⟩ := RL.at (A := Av) (n := nl V) (c := cv) (by rw [HNV.out]; have := hVn; unfold NL at this; rw [HNV.out] at this; exact this) (i := t + 1) (by rw [HNV.out, HN.out]; omega)
      obtain ⟨bw', ow', hAve', _, hv2⟩ := RL.at (A := Av) (n := nl V) (c := cv) (by rw [HNV.out]; have := hVn; unfold NL at this; rw [HNV.out] at this; exact this) (i := t) (by rw [HNV.out, HN.out]; omega)
      subst hAve
      injection hAve' with hAve'
      injection hAve' with h1 h2
      subst h1 h2
      obtain ⟨a0, ha0⟩ : ∃ a, a = i + t := ⟨_, rfl⟩
      obtain ⟨a1, ha1⟩ : ∃ a, a = i + (t + 1) := ⟨_, rfl⟩
      obtain ⟨a2, ha2⟩ : ∃ a, a = i + (t + 2) := ⟨_, rfl⟩
      have hnt := HN.out
      have hLK : L = K + n := by have := HK.out; have := HLx.out; omega
      have g1 : IntKind.i64.wrap ((i : Int) + (n : Int)) = (a2 : Int) := by rw [show (i : Int) + (n : Int) = (a2 : Int) by omega]; exact IntWalk.i64_in _ (by have := HLx.out; omega)
      have g2 : IntKind.i64.wrap ((a2 : Int) - 1) = (a1 : Int) := by rw [show (a2 : Int) - 1 = (a1 : Int) by omega]; exact IntWalk.i64_in _ (by have := HLx.out; omega)
      have g3 : IntKind.i64.wrap ((a2 : Int) - 2) = (a0 : Int) := by rw [show (a2 : Int) - 2 = (a0 : Int) by omega]; exact IntWalk.i64_in _ (by have := HLx.out; omega)
      have g4 : IntKind.i64.wrap ((n : Int) - 2) = (t : Int) := by rw [show (n : Int) - 2 = (t : Int) by omega]; exact IntWalk.i64_in _ (by omega)
      have b2 : (a2 : Int) < (L : Int) := by omega
      have b1 : (a1 : Int) < (L : Int) := by omega
      have b0 : (a0 : Int) < (L : Int) := by omega
      have b3 : (t : Int) < (n : Int) := by omega
      have hsz : wr.heap.size ≥ w4.heap.size := HD.out.below.size
      obtain ⟨U, hU⟩ : ∃ U, U = vl (win f i) (n + 1) := ⟨_, rfl⟩
      have hUs := hU
      rw [hnt, show t + 2 + 1 = t + 3 from rfl, win_split, ← ha0, ← ha1, ← ha2] at hUs
      have hVs := val_split (V := V) (t := t) (by rw [HNV.out]; exact hnt)
      have l0 := HD.out.lt a0 (by omega)
      have l1 := HD.out.lt a1 (by omega)
      have l2 := HD.out.lt a2 (by omega)
      have lv1 := dg_lt V (t + 1)
      have lv2 := dg_lt V t
      have lur : vl (win f i) t < Bq ^ t := vl_lt fun j hj => HD.out.lt _ (by omega)
      have hV0 : 0 < V := by rw [HVE.out]; exact Nat.mul_pos hy0 HF.out.1
      have hv10 : 0 < dg V (t + 1) := Nat.pos_of_ne_zero (top_ne (by rw [HNV.out]; exact hnt))
      have hQB : U / V < Bq := by
        have := HD.out.window
        rw [hU, this, (div_step rfl).1]
        exact dg_lt _ _
      have hc2 := HD.out.ub.cell (i := a2) (by omega)
      have hc1' := HD.out.ub.cell (i := a1) (by omega)
      have hc0 := HD.out.ub.cell (i := a0) (by omega)
      have hd1 : wr.cell? ⟨bw, ow + (t + 1), none⟩ = _ := (HD.out.below.cell (p := ⟨bw, ow + (t + 1), none⟩) hbw).trans hv1
      rw [show t + 1 = p1 from HP1.out.symm] at hd1
      obtain ⟨t2, ht2⟩ : ∃ a, a = f a2 := ⟨_, rfl⟩
      obtain ⟨t1, ht1⟩ : ∃ a, a = f a1 := ⟨_, rfl⟩
      obtain ⟨t0, ht0⟩ : ∃ a, a = f a0 := ⟨_, rfl⟩
      obtain ⟨v1, hv1e⟩ : ∃ a, a = dg V (t + 1) := ⟨_, rfl⟩
      obtain ⟨v2, hv2e⟩ : ∃ a, a = dg V t := ⟨_, rfl⟩
      rw [show dg V p1 = v1 by rw [HP1.out, hv1e]] at hd1
      rw [← ht2] at hc2 hUs l2
      rw [← ht1] at hc1' hUs l1
      rw [← ht0] at hc0 hUs l0
      rw [← hv1e] at hVs lv1 hv10
      rw [← hv2e] at hVs lv2
      obtain ⟨top, htop⟩ : ∃ a, a = t2 * Bq + t1 := ⟨_, rfl⟩
      rw [← htop] at hUs
      have htopB : top < Bq * Bq := by
        have : (t2 + 1) * Bq ≤ Bq * Bq := Nat.mul_le_mul_right _ l2
        rw [Nat.add_mul, Nat.one_mul] at this
        omega
      have hBB : Bq * Bq = 1000000000000000000 := by decide
      rw [hBB] at htopB
      obtain ⟨q0, hq0⟩ : ∃ a, a = top / v1 := ⟨_, rfl⟩
      obtain ⟨r0, hr0⟩ : ∃ a, a = top % v1 := ⟨_, rfl⟩
      have hq0B : q0 ≤ top := by rw [hq0]; exact Nat.div_le_self _ _
      have HQG := Lib.hid (show QG U V top v1 v2 t0 q0 r0 from ⟨by rw [hq0, hr0, Nat.mul_comm, Nat.div_add_mod], by
        rw [hq0]
        refine kd_init hUs hVs ?_ hv10 (Nat.div_mul_le_self _ _)
        have : (t0 + 1) * Bq ^ t ≤ Bq * Bq ^ t := Nat.mul_le_mul_right _ l0
        rw [Nat.add_mul, Nat.one_mul] at this
        omega⟩)
      have f1 : IntKind.u64.wrap (t2 : Int) = (t2 : Int) := IntWalk.u64_in _ (by unfold Bq at *; omega)
      have f2 : IntKind.u64.wrap (t1 : Int) = (t1 : Int) := IntWalk.u64_in _ (by unfold Bq at *; omega)
      have f3 : IntKind.u64.wrap ((t2 : Int) * 1000000000) = (t2 : Int) * 1000000000 := IntWalk.u64_in _ (by unfold Bq at *; omega)
      have f4 : IntKind.u64.wrap ((t2 : Int) * 1000000000 + (t1 : Int)) = (top : Int) := by
        rw [show (t2 : Int) * 1000000000 + (t1 : Int) = (top : Int) by unfold Bq at *; omega]
        exact IntWalk.u64_in _ (by omega)
      have f5 : IntKind.u64.wrap (v1 : Int) = (v1 : Int) := IntWalk.u64_in _ (by unfold Bq at *; omega)
      have f6 : IntKind.u64.wrap ((top : Int).tdiv (v1 : Int)) = (q0 : Int) := by
        rw [show (top : Int).tdiv (v1 : Int) = (q0 : Int) by rw [hq0]; rfl]
        exact IntWalk.u64_in _ (by omega)
      have f6' : IntKind.u64.wrap ((top : Int) / (v1 : Int)) = (q0 : Int) := by
        rw [show (top : Int) / (v1 : Int) = (q0 : Int) by rw [hq0]; rfl]
        exact IntWalk.u64_in _ (by omega)
      have f7 : (top : Int).tmod (v1 : Int) = (r0 : Int) := by rw [hr0]; rfl
      have f7' : (top : Int) % (v1 : Int) = (r0 : Int) := by rw [hr0]; rfl
      have f8 : IntKind.u64.wrap (r0 : Int) = (r0 : Int) := IntWalk.u64_in _ (by have := Nat.mod_lt top hv10; unfold Bq at *; omega)
      have hv1z : ((v1 : Int) == 0) = false := beq_eq_false_iff_ne.2 (by omega)
      have hv1n : ¬ (v1 : Int) = 0 := by omega
      have HM1 := Lib.hid (And.intro hUs (And.intro hVs (And.intro l0 (And.intro lur (And.intro lv1 (And.intro lv2 hv10))))))
      have HM2 := Lib.hid (And.intro hU (And.intro hQB (And.intro hV0 htopB)))
      have HM3 := Lib.hid (And.intro ha0 (And.intro ha1 (And.intro ha2 (And.intro ht0 (And.intro hv2e hLK)))))
      have HV2 := Lib.hid (And.intro hbw hv2)
      have HV1 := Lib.hid hv1
      have HV1e := Lib.hid hv1e
      clear hUs hVs l0 l1 l2 lur lv1 lv2 hv10 hU hQB hV0 htopB ha0 ha1 ha2 ht0 ht1 ht2 hv2e hv1e hLK hq0 hr0 hq0B htop hBB hnt hVn hbw hv2 hv1 hsz hc0
      go_wp2_with fail
      go_quiet (fail)
      have HDa := Lib.hid (HD.out.drewN nq)
      have hd2 : (wr.drewN nq).cell? ⟨bw, ow + p1, none⟩ = _ := hd1
      clear hd1 hc2 hc1' f1 f2 f3 f4 HD
      generalize wr.drewN nq = wq at *
      go_wp2_with fail
      go_quiet (fail)
      have HDb := Lib.hid (HDa.out.drewN nq)
      clear hd2 HDa f6 f6' f7 f7' f8 hv1z hv1n
      generalize wq.drewN nq = wp at *
      go_wp2_with fail
      go_loopw [14, 15] (fun s14 s15 wx => ∃ (q r : Nat), s14 = .int .u64 (q : Int) ∧ s15 = .int .u64 (r : Int) ∧ Hid (QG U V top v1 v2 t0 q r) ∧ Hid (DV w4 wx gu qb L n z V (i + 1) f h)) (fun s14 _ _ => (intOf s14).toNat)
      case atStart => exact ⟨q0, r0, rfl, rfl, HQG, HDb⟩
      case round =>
        clear HDb HQG
        obtain ⟨q, r, rfl, rfl, HG, HD⟩ := hrel
        obtain ⟨hUs, hVs, l0, lur, lv1, lv2, hv10⟩ := HM1.out
        have hqr := HG.out.eq
        have hqt : q ≤ top := by
          have : q * 1 ≤ q * v1 := Nat.mul_le_mul_left _ hv10
          omega
        have hvr : V % Bq ^ t < Bq ^ t := Nat.mod_lt _ (pow_pos' t)
        have htopB := HM2.out.2.2.2
        have hQB := HM2.out.2.1
        have k1 : wr.cell? ⟨bw, ow + p1, none⟩ = some (.int .u32 (v1 : Int)) := (HD.out.below.cell (p := ⟨bw, ow + p1, none⟩) HV2.out.1).trans (by
          rw [HP1.out, HV1.out]
          obtain ⟨_, _, _, _, hv2e, _⟩ := HM3.out
          rw [HV1e.out])
        have k2 : wr.cell? ⟨bw, ow + t, none⟩ = some (.int .u32 (v2 : Int)) := (HD.out.below.cell (p := ⟨bw, ow + t, none⟩) HV2.out.1).trans (by
          rw [HV2.out.2]
          obtain ⟨_, _, _, _, hv2e, _⟩ := HM3.out
          rw [hv2e])
        have k3 : wr.cell? ⟨gu, a0, none⟩ = some (.int .u32 (t0 : Int)) := (HD.out.ub.cell (by have := HM3.out.1; have := HM3.out.2.2.2.2.2; have := HN.out; omega)).trans (by rw [HM3.out.2.2.2.1])
        have w1 : IntKind.u64.wrap ((r : Int) + (v1 : Int)) = ((r + v1 : Nat) : Int) := by
          rw [show (r : Int) + (v1 : Int) = ((r + v1 : Nat) : Int) by omega]
          exact IntWalk.u64_in _ (by unfold Bq at *; omega)
        by_cases hq : Bq ≤ q
        · obtain ⟨p, rfl⟩ : ∃ p, q = p + 1 := ⟨q - 1, by unfold Bq at hq; omega⟩
          have hlow : U / V < p + 1 := by omega
          have w2 : IntKind.u64.wrap (((p + 1 : Nat) : Int) - 1) = (p : Int) := by
            rw [show ((p + 1 : Nat) : Int) - 1 = (p : Int) by omega]
            exact IntWalk.u64_in _ (by omega)
          have hqz : (((p + 1 : Nat) : Int) ≥ 1000000000) := by unfold Bq at hq; omega
          obtain ⟨p', hp'⟩ : ∃ p', p' = p + 1 := ⟨_, rfl⟩
          have HPp := Lib.hid hp'
          rw [← hp'] at hqz w2 ⊢
          clear hq hp' 
          have HG2 := Lib.hid (HG.out.down (q := p) (by have := hlow; omega))
          clear hUs hVs l0 lur lv1 lv2 hv10 hqr hqt hvr htopB hQB hlow HG
          go_wp2_with fail
          go_quiet (fail)
          have HDc := Lib.hid (HD.out.drewN nq)
          have k4 : (wr.drewN nq).cell? ⟨bw, ow + p1, none⟩ = _ := k1
          clear k1 k2 k3 HD
          generalize wr.drewN nq = wx at *
          go_wp2_with fail
          go_roundw
          case rel => exact ⟨p, r + v1, rfl, rfl, HG2, HDc⟩
          case measure => simp [intOf]; have := HPp.out; omega
        have hq1 : q < Bq := by omega
        have hqz : decide ((q : Int) ≥ 1000000000) = false := decide_eq_false (by unfold Bq at hq1; omega)
        have hGe := HG.out.ge
        by_cases hr : Bq ≤ r
        · have hrz : decide ((r : Int) < 1000000000) = false := decide_eq_false (by unfold Bq at hr; omega)
          have HX := Lib.hid (And.intro HG.out.ge (And.intro (kd_end hUs hVs hvr lv2 hv10 hqr hq1 (.inl hr)) hq1))
          clear hq1 hr hGe hq
          clear hUs hVs l0 lur lv1 lv2 hv10 hqr hqt hvr htopB hQB HG w1
          go_wp2_with fail
          go_quiet (fail)
          have HDc := Lib.hid (HD.out.drewN nq)
          skip
          clear k1 k2 k3 HD hqz hrz
          generalize wr.drewN nq = wx at *
          obtain ⟨hU, _, hV0, _⟩ := HM2.out
          have hLK := HM3.out.2.2.2.2.2
          have hvvk := HVV.out.keep (HDc.out.below.mono (Nat.le_refl _))
          have hfar : ∀ b, (Value.slice (some ⟨bw, ow, none⟩) n cv).ownBlock = some b → b ≠ gu := fun b hb => by
            simp [Value.ownBlock] at hb
            have := HV2.out.1
            omega
          have HRd := reduce_any gu L capu i (.slice (some ⟨bw, ow, none⟩) n cv) V q f wx HDc.out.ub HDc.out.lt hvvk hV0 hfar (by have := HLx.out; omega) (by rw [HNV.out]; omega) HX.out.2.2 (by rw [HNV.out, ← hU]; exact HX.out.1) (by rw [HNV.out, ← hU]; exact HX.out.2.1)
          rw [HNV.out, ← hU] at HRd
          clear hvvk hfar hU hV0 hLK
          go_wp2_with fail
          refine HRd.mono ?_
          rintro e w8 ⟨f', rfl, ho, hub, hlt8, hold, hval⟩
          clear HRd
          obtain ⟨hU, hQB, hV0, _⟩ := HM2.out
          have hLK := HM3.out.2.2.2.2.2
          have hne : qb ≠ gu := by omega
          have HDn := Lib.hid (DV.next HDc.out ho hub hlt8 hold (by rw [← hU]; exact hval) HNV.out hV0 hgu hqb hne)
          have hlb := World.rowIs.of_block HDc.out.lb (ho.block _ (World.rowIs.lt HDc.out.lb) hne)
          have hst1 := World.rowIs.cell hlb (i := i) (by omega)
          have hst2 := World.rowIs.frozen hlb i
          have hiz : (i : Int) < (K : Int) := by omega
          rw [← hU] at HDn
          obtain ⟨QD, hQD⟩ : ∃ QD, QD = U / V := ⟨_, rfl⟩
          rw [← hQD] at HDn hQB ⊢
          have x1 : (QD : Int) % 4294967296 = (QD : Int) := Int.emod_eq_of_lt (by omega) (by unfold Bq at *; omega)
          have HI2 := Lib.hid (show i ≤ K by omega)
          have hi9 : i ≤ 1000000 := by have := HLx.out; omega
          have hid9 := i64_down i (by omega)
          clear hQD ho hub hlt8 hold hval hU hQB hV0 hLK hne hlb HDc hgul
          go_wp2_with fail
          go_roundw
          case rel => exact ⟨i, f', _, rfl, HI2, HDn⟩
          case measure => first | (simp [intOf]; done) | (simp [intOf]; omega)
        have hrz : (r : Int) < 1000000000 := by unfold Bq at hr; omega
        obtain ⟨P, hP⟩ : ∃ P, P = q * v2 := ⟨_, rfl⟩
        have hPB : P < Bq * Bq := by rw [hP]; have := times_carry hq1 lv2 Bq_pos Bq_pos; omega
        rw [show Bq * Bq = 1000000000000000000 by decide] at hPB
        obtain ⟨T, hT⟩ : ∃ T, T = r * Bq + t0 := ⟨_, rfl⟩
        have y1 : IntKind.u64.wrap ((q : Int) * (v2 : Int)) = (P : Int) := by
          rw [show (q : Int) * (v2 : Int) = (P : Int) by rw [hP]; rfl]
          exact IntWalk.u64_in _ (by omega)
        have y2 : IntKind.u64.wrap ((r : Int) * 1000000000) = (r : Int) * 1000000000 := IntWalk.u64_in _ (by unfold Bq at *; omega)
        have y3 : IntKind.u64.wrap ((r : Int) * 1000000000 + (t0 : Int)) = (T : Int) := by
          rw [show (r : Int) * 1000000000 + (t0 : Int) = (T : Int) by unfold Bq at *; omega]
          exact IntWalk.u64_in _ (by unfold Bq at *; omega)
        have y4 : IntKind.u64.wrap (v2 : Int) = (v2 : Int) := IntWalk.u64_in _ (by unfold Bq at *; omega)
        have y5 : IntKind.u64.wrap (t0 : Int) = (t0 : Int) := IntWalk.u64_in _ (by unfold Bq at *; omega)
        by_cases hc : T < P
        · have hcz : (P : Int) > (T : Int) := by omega
          have hlt := kd_step hUs hVs lur hqr (by rw [← hT, ← hP]; exact hc)
          have hlow0 : U / V < q := (Nat.div_lt_iff_lt_mul HM2.out.2.2.1).2 hlt
          obtain ⟨p, hp⟩ : ∃ p, q = p + 1 := ⟨q - 1, by have := Nat.lt_of_le_of_lt (Nat.zero_le _) hlow0; omega⟩
          have hlow : U / V < p + 1 := by omega
          have w2 : IntKind.u64.wrap ((q : Int) - 1) = (p : Int) := by
            rw [show (q : Int) - 1 = (p : Int) by omega]
            exact IntWalk.u64_in _ (by omega)
          have HPp := Lib.hid hp
          have HG := Lib.hid (show QG U V top v1 v2 t0 (p + 1) r from hp ▸ HG.out)
          clear hq hp hP hPB hT hlt hlow0 hc hq1 hr hGe

          have HG2 := Lib.hid (HG.out.down (q := p) (by have := hlow; omega))
          clear hUs hVs l0 lur lv1 lv2 hv10 hqr hqt hvr htopB hQB hlow HG
          go_wp2_with fail
          go_quiet (fail)
          have HDc := Lib.hid (HD.out.drewN nq)
          have k4 : (wr.drewN nq).cell? ⟨bw, ow + p1, none⟩ = _ := k1
          clear k1 k2 k3 HD
          generalize wr.drewN nq = wx at *
          go_wp2_with fail
          go_roundw
          case rel => exact ⟨p, r + v1, rfl, rfl, HG2, HDc⟩
          case measure => simp [intOf]; have := HPp.out; omega
        · have hcz : ¬ (P : Int) > (T : Int) := by omega
          have HX := Lib.hid (And.intro HG.out.ge (And.intro (kd_end hUs hVs hvr lv2 hv10 hqr hq1 (.inr (by rw [← hT, ← hP]; omega))) hq1))
          clear hq hP hPB hT hc hq1 hr hGe
          clear hUs hVs l0 lur lv1 lv2 hv10 hqr hqt hvr htopB hQB HG w1
          go_wp2_with fail
          go_quiet (fail)
          have HDc := Lib.hid (HD.out.drewN nq)
          clear y1 y2 y3 y4 y5
          clear k1 k2 k3 HD hqz hrz
          generalize wr.drewN nq = wx at *
          obtain ⟨hU, _, hV0, _⟩ := HM2.out
          have hLK := HM3.out.2.2.2.2.2
          have hvvk := HVV.out.keep (HDc.out.below.mono (Nat.le_refl _))
          have hfar : ∀ b, (Value.slice (some ⟨bw, ow, none⟩) n cv).ownBlock = some b → b ≠ gu := fun b hb => by
            simp [Value.ownBlock] at hb
            have := HV2.out.1
            omega
          have HRd := reduce_any gu L capu i (.slice (some ⟨bw, ow, none⟩) n cv) V q f wx HDc.out.ub HDc.out.lt hvvk hV0 hfar (by have := HLx.out; omega) (by rw [HNV.out]; omega) HX.out.2.2 (by rw [HNV.out, ← hU]; exact HX.out.1) (by rw [HNV.out, ← hU]; exact HX.out.2.1)
          rw [HNV.out, ← hU] at HRd
          clear hvvk hfar hU hV0 hLK
          go_wp2_with fail
          refine HRd.mono ?_
          rintro e w8 ⟨f', rfl, ho, hub, hlt8, hold, hval⟩
          clear HRd
          obtain ⟨hU, hQB, hV0, _⟩ := HM2.out
          have hLK := HM3.out.2.2.2.2.2
          have hne : qb ≠ gu := by omega
          have HDn := Lib.hid (DV.next HDc.out ho hub hlt8 hold (by rw [← hU]; exact hval) HNV.out hV0 hgu hqb hne)
          have hlb := World.rowIs.of_block HDc.out.lb (ho.block _ (World.rowIs.lt HDc.out.lb) hne)
          have hst1 := World.rowIs.cell hlb (i := i) (by omega)
          have hst2 := World.rowIs.frozen hlb i
          have hiz : (i : Int) < (K : Int) := by omega
          rw [← hU] at HDn
          obtain ⟨QD, hQD⟩ : ∃ QD, QD = U / V := ⟨_, rfl⟩
          rw [← hQD] at HDn hQB ⊢
          have x1 : (QD : Int) % 4294967296 = (QD : Int) := Int.emod_eq_of_lt (by omega) (by unfold Bq at *; omega)
          have HI2 := Lib.hid (show i ≤ K by omega)
          have hi9 : i ≤ 1000000 := by have := HLx.out; omega
          have hid9 := i64_down i (by omega)
          clear hQD ho hub hlt8 hold hval hU hQB hV0 hLK hne hlb HDc hgul
          go_wp2_with fail
          go_roundw
          case rel => exact ⟨i, f', _, rfl, HI2, HDn⟩
          case measure => first | (simp [intOf]; done) | (simp [intOf]; omega)
end Go.Proofs.YthodlgjfmddemaaGreatDoor.Rk
