/- Numbers by limbs: comparing, the sum, the difference. -/
import Derived.Test.YthodlgjfmddemaaGreatDoorRkA
import Derived.Deep.DeepCutAuto
import Derived.Deep.CutBlock
namespace Go.Proofs.YthodlgjfmddemaaGreatDoor.Rk
open Go.RowKit

/-- a comparison's answer -/
def CmpP (x y : Nat) (w : World) (e : Ending) (w' : World) : Prop := ∃ (k : Int) (q : Nat), e = .returned (.int .i64 k) ∧ (k < 0 ↔ x < y) ∧ (k = 0 ↔ x = y) ∧ w' = w.drewN q
theorem RL.at {w : World} {A : Option Addr} {n c z : Nat} (h : RL w (.slice A n c) n z) {i : Nat} (hi : i < n) : ∃ b off, A = some ⟨b, off, none⟩ ∧ b < w.heap.size ∧ w.cell? ⟨b, off + i, none⟩ = some (.int .u32 (dg z i : Int)) := by
  obtain ⟨A', c', e, hc, hA, h⟩ := h
  injection e with e1 e2 e3
  subst e1 e3
  obtain ⟨b, off, rfl, hb, hc⟩ := h (by omega)
  exact ⟨b, off, rfl, hb, hc i hi⟩
theorem RL.form {w : World} {v : Value} {n z : Nat} (h : RL w v n z) : ∃ A c, v = .slice A n c ∧ n ≤ c ∧ (A = none → c = 0) := by
  obtain ⟨A, c, rfl, hc, hA, _⟩ := h
  exact ⟨A, c, rfl, hc, hA⟩
theorem div_step_eq {x y i : Nat} (h : x / Bq ^ (i + 1) = y / Bq ^ (i + 1)) (e : dg x i = dg y i) : x / Bq ^ i = y / Bq ^ i := by
  have h1 : ∀ z, z / Bq ^ i = Bq * (z / Bq ^ (i + 1)) + dg z i := fun z => by
    unfold dg
    rw [Nat.pow_succ, ← Nat.div_div_eq_div_mul, Nat.div_add_mod]
  rw [h1 x, h1 y, h, e]
theorem div_lt_of {x y i : Nat} (h : x / Bq ^ (i + 1) = y / Bq ^ (i + 1)) (e : dg x i < dg y i) : x < y := by
  have h1 : ∀ z, z / Bq ^ i = Bq * (z / Bq ^ (i + 1)) + dg z i := fun z => by
    unfold dg
    rw [Nat.pow_succ, ← Nat.div_div_eq_div_mul, Nat.div_add_mod]
  have h2 : x / Bq ^ i < y / Bq ^ i := by rw [h1 x, h1 y, h]; omega
  rcases Nat.lt_or_ge x y with h3 | h3
  · exact h3
  · have := Nat.div_le_div_right (c := Bq ^ i) h3
    omega
theorem eq_of_div {x y : Nat} (h : x / Bq ^ 0 = y / Bq ^ 0) : x = y := by simpa using h
theorem drewN_more {w wr : World} (h : ∃ q, wr = w.drewN q) (k : Nat) : ∃ q, wr.drewN k = w.drewN q := by
  obtain ⟨q, rfl⟩ := h
  exact ⟨q + k, by simp [World.drewN, Nat.add_assoc]⟩
set_option maxRecDepth 100000 in
set_option maxHeartbeats 1600000 in
theorem compare_any (u v : Value) (x y : Nat) (w : World) (hu : NL w u x) (hv : NL w v y) (hx : nl x ≤ 1000000000) (hy : nl y ≤ 1000000000) :
    Calls Tryz.prog 36 #[u, v] w (CmpP x y w) := by
  obtain ⟨A, c, rfl, hc, hA⟩ := RL.form hu
  obtain ⟨A2, c2, rfl, hc2, hA2⟩ := RL.form hv
  obtain ⟨n, hn⟩ : ∃ n, n = nl x := ⟨_, rfl⟩
  obtain ⟨m, hm⟩ : ∃ m, m = nl y := ⟨_, rfl⟩
  unfold NL at hu hv
  rw [← hn] at hu hx hc ⊢
  rw [← hm] at hv hy hc2 ⊢
  obtain ⟨Q, hQ⟩ : ∃ Q, CmpP x y w = Q := ⟨_, rfl⟩
  rw [hQ]
  have HQ := Lib.hid hQ
  have HU := Lib.hid hu
  have HV := Lib.hid hv
  have HN := Lib.hid hn
  have HM := Lib.hid hm
  clear hQ hu hv hn hm hA hA2 hc hc2
  by_cases hnm : n = m
  case neg =>
    have hne : ¬ (n : Int) = (m : Int) := by omega
    have hneb : ((n : Int) != (m : Int)) = true := by simpa using hne
    have e1 : IntKind.i64.wrap ((n : Int) - (m : Int)) = (n : Int) - (m : Int) := IntWalk.i64_in _ (by omega)
    have HF := Lib.hid (show CmpP x y w (.returned (.int .i64 ((n : Int) - (m : Int)))) w from by
      have h1 : x < y ↔ n < m := by
        rw [HN.out, HM.out]
        constructor
        · intro h
          have := nl_mono (Nat.le_of_lt h)
          rw [← HN.out, ← HM.out] at *
          omega
        · intro h
          rcases Nat.lt_or_ge x y with h1 | h1
          · exact h1
          · have := nl_mono h1
            omega
      refine ⟨_, 0, rfl, by rw [h1]; omega, ?_, rfl⟩
      constructor
      · intro h; omega
      · intro h
        exfalso
        apply hnm
        rw [HN.out, HM.out, h])
    clear hnm
    go_enter Tryz.func36, Tryz.ntmps36
    go_wp2
    rw [← HQ.out]
    exact HF.out
  subst hnm
  have e0 := i64_down n (by omega)
  go_enter Tryz.func36, Tryz.ntmps36
  go_wp2
  go_loopw [5] (fun s5 wr => ∃ (i : Nat), s5 = .int .i64 ((i : Int) - 1) ∧ Hid (i ≤ n) ∧ Hid (x / Bq ^ i = y / Bq ^ i) ∧ Hid (∃ q, wr = w.drewN q)) (fun s5 _ => (intOf s5 + 1).toNat)
  case atStart => exact ⟨n, rfl, Lib.hid (Nat.le_refl _), Lib.hid (by rw [Nat.div_eq_of_lt ((lt_pow_iff _ _).2 (by rw [HN.out]; exact Nat.le_refl _)), Nat.div_eq_of_lt ((lt_pow_iff _ _).2 (by rw [HM.out]; exact Nat.le_refl _))]), Lib.hid ⟨0, rfl⟩⟩
  case round =>
    obtain ⟨i, rfl, HI, HE, HW⟩ := hrel
    cases i with
    | zero =>
      have HF := Lib.hid (show CmpP x y w (.returned (.int .i64 0)) wr from by
        obtain ⟨q, e⟩ := HW.out
        exact ⟨0, q, rfl, by rw [eq_of_div HE.out]; simp, by simp; exact eq_of_div HE.out, e⟩)
      have hneg : ¬ (-1 : Int) ≥ 0 := by omega
      rw [show (((0 : Nat) : Int) - 1) = -1 by omega]
      go_wp2
      rw [← HQ.out]
      exact HF.out
    | succ i =>
      have hin : i < n := HI.out
      obtain ⟨b, off, hAe, hb, hcell⟩ := RL.at HU.out hin
      obtain ⟨b2, off2, hAe2, hb2, hcell2⟩ := RL.at HV.out hin
      subst hAe hAe2
      have hc1 : wr.cell? ⟨b, off + i, none⟩ = _ := (by obtain ⟨q, e⟩ := HW.out; rw [e]; exact hcell)
      have hc2 : wr.cell? ⟨b2, off2 + i, none⟩ = _ := (by obtain ⟨q, e⟩ := HW.out; rw [e]; exact hcell2)
      rw [show (((i + 1 : Nat) : Int) - 1) = (i : Int) by omega]
      have hi1 : (i : Int) < (n : Int) := by omega
      have hi0 : (i : Int) ≥ 0 := by omega
      have ed := i64_down i (by omega)
      by_cases hd : dg x i = dg y i
      · have HE2 := Lib.hid (div_step_eq HE.out hd)
        rw [← hd] at hc2
        clear hd hcell hcell2 HE
        generalize dg x i = a at *
        have hab : ((a : Int) != (a : Int)) = false := by simp
        go_wp2
        go_quiet (fail)
        go_wp2
        go_roundw
        case rel => exact ⟨i, rfl, Lib.hid (by omega), HE2, Lib.hid (drewN_more HW.out nq)⟩
        case measure => first | (simp [intOf]; done) | (simp [intOf]; omega)
      · have hl1 := dg_lt x i
        have hl2 := dg_lt y i
        have HF := Lib.hid (show ∀ w', (∃ q, w' = w.drewN q) → CmpP x y w (.returned (.int .i64 ((dg x i : Int) - (dg y i : Int)))) w' from fun w' hw' => by
          obtain ⟨q, e⟩ := hw'
          refine ⟨_, q, rfl, ?_, ?_, e⟩
          · constructor
            · intro h
              exact div_lt_of HE.out (by omega)
            · intro h
              rcases Nat.lt_or_ge (dg y i) (dg x i) with h1 | h1
              · have := div_lt_of HE.out.symm h1
                omega
              · omega
          · constructor
            · intro h; omega
            · intro h
              exfalso
              apply hd
              rw [h])
        clear hcell hcell2 HE
        generalize dg x i = a at *
        generalize dg y i = d at *
        have hab : ¬ (a : Int) = (d : Int) := by omega
        have habb : ((a : Int) != (d : Int)) = true := by simpa using hab
        have e1 : IntKind.i64.wrap ((a : Int) - (d : Int)) = (a : Int) - (d : Int) := IntWalk.i64_in _ (by unfold Bq at *; omega)
        have e2 : IntKind.i64.wrap (a : Int) = (a : Int) := IntWalk.i64_in _ (by unfold Bq at *; omega)
        have e3 : IntKind.i64.wrap (d : Int) = (d : Int) := IntWalk.i64_in _ (by unfold Bq at *; omega)
        go_wp2
        go_quiet (fail)
        go_wp2
        go_quiet (fail)
        go_wp2
        rw [← HQ.out]
        exact HF.out _ (drewN_more (drewN_more HW.out _) _)

/-- a number of the call's own: the result of a trimming -/
theorem NL.trimmed {w : World} {A : Option Addr} {n c z : Nat} (h : RL w (.slice A n c) n z) (hz : z < Bq ^ n) : NL w (.slice A (nl z) c) z := by
  obtain ⟨A', c', e, hc, hA', h⟩ := h
  injection e with e1 e2 e3
  subst e1 e3
  have hle : nl z ≤ n := (lt_pow_iff _ _).1 hz
  refine ⟨A, c, rfl, by omega, hA', fun h0 => ?_⟩
  obtain ⟨b, off, e, hb, hc⟩ := h (by omega)
  exact ⟨b, off, e, hb, fun j hj => hc j (by omega)⟩
/-- a block so far: its first i places make up g -/
structure PB (w wr : World) (n i g : Nat) (f : Nat → Nat) : Prop where
  below : Below w.heap.size w wr
  blk : LB wr w.heap.size n f
  lt : ∀ j, j < n → f j < Bq
  val : vl f i = g
theorem PB.made (w : World) (n : Nat) : PB w (w.alloc (.cells (madeCells #[.int .u32 0] n) 93)) n 0 0 (fun _ => 0) :=
  ⟨(Below.refl _ _).alloc (Nat.le_refl _) _, LB.made w n, fun _ _ => Bq_pos, rfl⟩
theorem PB.set {w wr : World} {n i g : Nat} {f : Nat → Nat} (h : PB w wr n i g f) (c : Nat) (hc : c < Bq) : PB w (wr.setCell ⟨w.heap.size, i, none⟩ (.int .u32 (c : Int))) n (i + 1) (g + c * Bq ^ i) (up f i c) :=
  ⟨h.below.setCell (p := ⟨w.heap.size, i, none⟩) (Nat.le_refl _) _, LB.set h.blk i c, fun j hj => by unfold up; split; exact hc; exact h.lt j hj, by rw [vl_up_succ, h.val]⟩
theorem PB.drew {w wr : World} {n i g : Nat} {f : Nat → Nat} (h : PB w wr n i g f) : PB w wr.drew n i g f := ⟨h.below.drew, LB.drew h.blk, h.lt, h.val⟩
theorem PB.done {w wr : World} {n g : Nat} {f : Nat → Nat} (h : PB w wr n n g f) : RL wr (.slice (some ⟨w.heap.size, 0, none⟩) n n) n g ∧ g < Bq ^ n := by
  have h1 := dg_of_vl h.lt h.val
  exact ⟨LB.rl h.blk h1, by rw [← h.val]; exact vl_lt h.lt⟩
theorem i64_sum (a b : Nat) (h : a + b ≤ 9223372036854775807) : IntKind.i64.wrap ((a : Int) + (b : Int)) = ((a + b : Nat) : Int) := by
  rw [show (a : Int) + (b : Int) = ((a + b : Nat) : Int) by omega]
  exact IntWalk.i64_in _ (by omega)
set_option maxRecDepth 100000 in
set_option maxHeartbeats 3200000 in
theorem plus_any (u v : Value) (x y : Nat) (w : World) (hu : NL w u x) (hv : NL w v y) (hx : nl x ≤ 1000000) (hy : nl y ≤ 1000000) :
    Calls Tryz.prog 34 #[u, v] w fun e w' => ∃ r, e = .returned r ∧ NL w' r (x + y) ∧ Below w.heap.size w w' := by
  obtain ⟨A, c, rfl, hc, hA⟩ := RL.form hu
  obtain ⟨A2, c2, rfl, hc2, hA2⟩ := RL.form hv
  have HU := Lib.hid hu
  have HV := Lib.hid hv
  clear hu hv hA hA2 hc hc2
  obtain ⟨n, hn⟩ : ∃ n, n = nl x := ⟨_, rfl⟩
  obtain ⟨m, hm⟩ : ∃ m, m = nl y := ⟨_, rfl⟩
  rw [← hn] at hx ⊢
  rw [← hm] at hy ⊢
  have HN := Lib.hid hn
  have HM := Lib.hid hm
  have HXY := Lib.hid (And.intro hx hy)
  clear hn hm hx hy
  go_enter Tryz.func34, Tryz.ntmps34
  go_upto_if 13 with fail
  go_cut [0, 1] (fun s0 s1 wx => ∃ (a b na nb : Nat) (Aa Ab : Option Addr) (ca cb : Nat), s0 = .slice Aa na ca ∧ s1 = .slice Ab nb cb ∧ Hid (na = nl a) ∧ Hid (nb = nl b) ∧ Hid (NL w (.slice Aa na ca) a) ∧ Hid (NL w (.slice Ab nb cb) b) ∧ Hid (a + b = x + y) ∧ Hid (nb ≤ na ∧ na ≤ 1000000) ∧ wx = w)
  case first =>
    by_cases hnm : n < m
    · have hnmz : (n : Int) < (m : Int) := by omega
      go_wp2
      go_meet
      exact ⟨y, x, m, n, A2, A, c2, c, rfl, rfl, HM, HN, by rw [HM.out]; exact HV, by rw [HN.out]; exact HU, Lib.hid (Nat.add_comm _ _), Lib.hid (by have := HXY.out; omega), rfl⟩
    · have hnmz : ¬ (n : Int) < (m : Int) := by omega
      go_wp2
      go_meet
      exact ⟨x, y, n, m, A, A2, c, c2, rfl, rfl, HN, HM, by rw [HN.out]; exact HU, by rw [HM.out]; exact HV, Lib.hid rfl, Lib.hid (by have := HXY.out; omega), rfl⟩
  case rest =>
  clear HU HV HN HM HXY
  obtain ⟨a, b, na, nb, Aa, Ab, ca, cb, rfl, rfl, HN, HM, HU, HV, HS, HL, hwx⟩ := hcut
  obtain rfl := hwx.symm
  have hnx := HL.out.2
  have es := i64_sum na 1 (by omega)
  have hmk := run_make_row' (P := Tryz.prog) 46 93 (.int .u32 0) 4 Tryz.underlying46 infoU32 rfl .i64 .i64 (na + 1) (by omega) (by omega)
  rw [show ((na + 1 : Nat) : Int) = (na : Int) + 1 by omega] at es hmk
  go_wp2
  go_loopw [6, 22] (fun s6 s22 wr => ∃ (i k g : Nat) (f : Nat → Nat), s6 = .int .u32 (k : Int) ∧ s22 = .int .i64 (i : Int) ∧ Hid (i ≤ na) ∧ Hid (k ≤ 1) ∧ Hid (PB w wr (na + 1) i g f) ∧ Hid (g + k * Bq ^ i = a % Bq ^ i + b % Bq ^ i)) (fun _ s22 _ => na - (intOf s22).toNat)
  case atStart => exact ⟨0, 0, 0, fun _ => 0, rfl, rfl, Lib.hid (Nat.zero_le _), Lib.hid (Nat.zero_le _), Lib.hid (PB.made _ _), Lib.hid (by simp [Nat.mod_one])⟩
  case round =>
    obtain ⟨i, k, g, f, rfl, rfl, HI, HK, HP, HE⟩ := hrel
    by_cases hlt : i < na
    case neg =>
      obtain rfl : i = na := by have := HI.out; omega
      have hz : ¬ (i : Int) < (i : Int) := by omega
      have hst1 := World.rowIs.cell HP.out.blk (Nat.lt_succ_self i)
      have hst2 := World.rowIs.frozen HP.out.blk i
      have hltz2 : (i : Int) < (i : Int) + 1 := by omega
      have hlast : g + k * Bq ^ i = x + y := by
        rw [HE.out, mod_full (by rw [HN.out]; exact Nat.le_refl _), mod_full (by rw [← HM.out]; exact HL.out.1), HS.out]
      obtain ⟨r1, r2⟩ := (HP.out.set k (by have := HK.out; unfold Bq; omega)).done
      have HB := Lib.hid (HP.out.below.setCell (p := ⟨w.heap.size, i, none⟩) (Nat.le_refl _) (.int .u32 (k : Int)))
      rw [hlast] at r1 r2
      have HR1 := Lib.hid r1
      have HR2 := Lib.hid r2
      have hnb : i + 1 ≤ 9223372036854775807 := by omega
      clear r1 r2 hlast HE HP hlt
      go_wp2_with (go_at_call 63; refine (trimmed_any _ (i + 1) (i + 1) (x + y) _ HR1.out HR2.out hnb).mono ?_; rintro e w' ⟨rfl, rfl⟩)
      go_ret
      exact ⟨_, rfl, NL.trimmed HR1.out HR2.out, HB.out⟩
    have hltz : (i : Int) < (na : Int) := by omega
    have hltz2 : (i : Int) < (na : Int) + 1 := by omega
    have hun := HU.out
    unfold NL at hun
    rw [← HN.out] at hun
    obtain ⟨ba, oa, hAe, hba, hcella⟩ := RL.at hun hlt
    subst hAe
    have hc1 := (HP.out.below.cell (p := ⟨ba, oa + i, none⟩) hba).trans hcella
    have hst1 := World.rowIs.cell HP.out.blk (Nat.lt_succ_of_lt hlt)
    have hst2 := World.rowIs.frozen HP.out.blk i
    have hda := dg_lt a i
    have hdb := dg_lt b i
    have hk1 := HK.out
    obtain ⟨nn, hnn⟩ : ∃ nn, nn = dg a i + k + dg b i := ⟨_, rfl⟩
    obtain ⟨o, ho⟩ : ∃ o, o = nn % Bq := ⟨_, rfl⟩
    obtain ⟨k2, hk2⟩ : ∃ o, o = nn / Bq := ⟨_, rfl⟩
    have ho1 : o < Bq := by rw [ho]; exact Nat.mod_lt _ Bq_pos
    have hk3 : k2 ≤ 1 := by rw [hk2]; unfold Bq at *; omega
    have f1 : IntKind.u32.wrap ((dg a i : Int) + (k : Int)) = (dg a i : Int) + (k : Int) := IntWalk.u32_in _ (by unfold Bq at *; omega)
    have f3 : (nn : Int) % 1000000000 = (o : Int) := by rw [ho]; rfl
    have f4 : IntKind.u32.wrap ((nn : Int) / 1000000000) = (k2 : Int) := by
      rw [show (nn : Int) / 1000000000 = (k2 : Int) by rw [hk2]; rfl]
      exact IntWalk.u32_in _ (by omega)
    have HE2 := Lib.hid (show g + o * Bq ^ i + k2 * Bq ^ (i + 1) = a % Bq ^ (i + 1) + b % Bq ^ (i + 1) from by
      rw [ho, hk2]
      exact plus_step hnn HE.out)
    have HP2 := Lib.hid ((HP.out.set o ho1))
    have HK2 := Lib.hid hk3
    have hun := 0
    clear hun hcella HE ho hk2 hk3 ho1
    by_cases hlb : i < nb
    · have hlbz : (i : Int) < (nb : Int) := by omega
      have hvn := HV.out
      unfold NL at hvn
      rw [← HM.out] at hvn
      obtain ⟨bb, ob, hBe, hbb, hcellb⟩ := RL.at hvn hlb
      subst hBe
      have hc2 := (HP.out.below.cell (p := ⟨bb, ob + i, none⟩) hbb).trans hcellb
      have f2 : IntKind.u32.wrap ((dg a i : Int) + (k : Int) + (dg b i : Int)) = (nn : Int) := by
        rw [show (dg a i : Int) + (k : Int) + (dg b i : Int) = (nn : Int) by omega]
        exact IntWalk.u32_in _ (by unfold Bq at *; omega)
      clear hcellb hvn hnn HP
      generalize dg a i = da at *
      generalize dg b i = db at *
      go_wp2
      go_roundw
      case rel => exact ⟨i + 1, k2, _, _, rfl, by go_num, Lib.hid hlt, HK2, HP2, HE2⟩
      case measure => first | (simp [intOf]; done) | (simp [intOf]; omega)
    · have hlbz : ¬ (i : Int) < (nb : Int) := by omega
      have f2 : (dg a i : Int) + (k : Int) = (nn : Int) := by
        rw [dg_high (x := b) (by rw [← HM.out]; omega)] at hnn
        omega
      have f5 : IntKind.u32.wrap ((dg a i : Int) + (k : Int)) = (nn : Int) := by rw [f1, f2]
      clear hnn HP f1 f2
      generalize dg a i = da at *
      go_wp2
      go_roundw
      case rel => exact ⟨i + 1, k2, _, _, rfl, by go_num, Lib.hid hlt, HK2, HP2, HE2⟩
      case measure => first | (simp [intOf]; done) | (simp [intOf]; omega)

set_option maxRecDepth 100000 in
set_option maxHeartbeats 3200000 in
theorem minus_any (u v : Value) (x y : Nat) (w : World) (hu : NL w u x) (hv : NL w v y) (hx : nl x ≤ 1000000) (hyx : y ≤ x) :
    Calls Tryz.prog 37 #[u, v] w fun e w' => ∃ r, e = .returned r ∧ NL w' r (x - y) ∧ Below w.heap.size w w' := by
  obtain ⟨A, c, rfl, hc, hA⟩ := RL.form hu
  obtain ⟨A2, c2, rfl, hc2, hA2⟩ := RL.form hv
  have HU := Lib.hid hu
  have HV := Lib.hid hv
  have hyl := nl_mono hyx
  have HYX := Lib.hid hyx
  clear hu hv hA hA2 hc hc2 hyx
  obtain ⟨n, hn⟩ : ∃ n, n = nl x := ⟨_, rfl⟩
  obtain ⟨m, hm⟩ : ∃ m, m = nl y := ⟨_, rfl⟩
  rw [← hn] at hx hyl ⊢
  rw [← hm] at hyl ⊢
  have HN := Lib.hid hn
  have HM := Lib.hid hm
  have HY := Lib.hid hyl
  clear hn hm hyl
  have hmk := run_make_row' (P := Tryz.prog) 46 93 (.int .u32 0) 4 Tryz.underlying46 infoU32 rfl .i64 .i64 n (by omega) (by omega)
  go_enter Tryz.func37, Tryz.ntmps37
  go_wp2
  go_loopw [6, 14] (fun s6 s14 wr => ∃ (i k g : Nat) (f : Nat → Nat), s6 = .int .i64 (k : Int) ∧ s14 = .int .i64 (i : Int) ∧ Hid (i ≤ n) ∧ Hid (k ≤ 1) ∧ Hid (PB w wr n i g f) ∧ Hid (g + y % Bq ^ i = x % Bq ^ i + k * Bq ^ i)) (fun _ s14 _ => n - (intOf s14).toNat)
  case atStart => exact ⟨0, 0, 0, fun _ => 0, rfl, rfl, Lib.hid (Nat.zero_le _), Lib.hid (Nat.zero_le _), Lib.hid (PB.made _ _), Lib.hid (by simp [Nat.mod_one])⟩
  case round =>
    obtain ⟨i, k, g, f, rfl, rfl, HI, HK, HP, HE⟩ := hrel
    by_cases hlt : i < n
    case neg =>
      obtain rfl : i = n := by have := HI.out; omega
      have hz : ¬ (i : Int) < (i : Int) := by omega
      obtain ⟨r1, r2⟩ := HP.out.done
      have hlast : g = x - y := minus_end (by rw [HN.out]; exact lt_nl x) HYX.out r2 HE.out
      rw [hlast] at r1 r2
      have HR1 := Lib.hid r1
      have HR2 := Lib.hid r2
      have hnb : i ≤ 9223372036854775807 := by omega
      clear r1 r2 hlast HE hlt
      go_wp2_with (go_at_call 63; refine (trimmed_any _ i i (x - y) _ HR1.out HR2.out hnb).mono ?_; rintro e w' ⟨rfl, rfl⟩)
      go_ret
      exact ⟨_, rfl, NL.trimmed HR1.out HR2.out, HP.out.below⟩
    have hltz : (i : Int) < (n : Int) := by omega
    have hun := HU.out
    obtain ⟨ba, oa, hAe, hba, hcella⟩ := RL.at hun (by rw [← HN.out]; exact hlt)
    subst hAe
    have hc1 := (HP.out.below.cell (p := ⟨ba, oa + i, none⟩) hba).trans hcella
    have hst1 := World.rowIs.cell HP.out.blk hlt
    have hst2 := World.rowIs.frozen HP.out.blk i
    have hda := dg_lt x i
    have hdb := dg_lt y i
    have hk1 := HK.out
    obtain ⟨k2, hk2⟩ : ∃ k2, k2 = if dg x i < k + dg y i then 1 else 0 := ⟨_, rfl⟩
    obtain ⟨o, ho⟩ : ∃ o, o = dg x i + k2 * Bq - (k + dg y i) := ⟨_, rfl⟩
    have ho1 : o < Bq := by rw [ho, hk2]; unfold Bq at *; split <;> omega
    have hk3 : k2 ≤ 1 := by rw [hk2]; split <;> omega
    have f0 : IntKind.i64.wrap (dg x i : Int) = (dg x i : Int) := IntWalk.i64_in _ (by unfold Bq at *; omega)
    have f1 : IntKind.i64.wrap ((dg x i : Int) - (k : Int)) = (dg x i : Int) - (k : Int) := IntWalk.i64_in _ (by unfold Bq at *; omega)
    have f6 : IntKind.u32.wrap (o : Int) = (o : Int) := IntWalk.u32_in _ (by unfold Bq at *; omega)
    have f7 : (o : Int) % 4294967296 = (o : Int) := Int.emod_eq_of_lt (by omega) (by unfold Bq at *; omega)
    have hoe : o + k + dg y i = dg x i + k2 * Bq := by rw [ho, hk2]; unfold Bq at *; split <;> omega
    have HE2 := Lib.hid (minus_step hoe HE.out)
    have HP2 := Lib.hid ((HP.out.set o ho1))
    have HK2 := Lib.hid hk3
    clear hun hcella HE hk3 ho1 hoe
    by_cases hlb : i < m
    · have hlbz : (i : Int) < (m : Int) := by omega
      have hvn := HV.out
      obtain ⟨bb, ob, hBe, hbb, hcellb⟩ := RL.at hvn (by rw [← HM.out]; exact hlb)
      subst hBe
      have hc2 := (HP.out.below.cell (p := ⟨bb, ob + i, none⟩) hbb).trans hcellb
      have f8 : IntKind.i64.wrap (dg y i : Int) = (dg y i : Int) := IntWalk.i64_in _ (by unfold Bq at *; omega)
      have f2 : IntKind.i64.wrap ((dg x i : Int) - (k : Int) - (dg y i : Int)) = (dg x i : Int) - (k : Int) - (dg y i : Int) := IntWalk.i64_in _ (by unfold Bq at *; omega)
      by_cases hneg : dg x i < k + dg y i
      · rw [if_pos hneg] at hk2
        have hnz : (dg x i : Int) - (k : Int) - (dg y i : Int) < 0 := by omega
        have f3 : IntKind.i64.wrap ((dg x i : Int) - (k : Int) - (dg y i : Int) + 1000000000) = (o : Int) := by
          rw [show (dg x i : Int) - (k : Int) - (dg y i : Int) + 1000000000 = (o : Int) by rw [ho, hk2]; unfold Bq at *; omega]
          exact IntWalk.i64_in _ (by unfold Bq at *; omega)
        subst hk2
        clear hcellb hvn ho HP hneg
        generalize dg x i = da at *
        generalize dg y i = db at *
        go_wp2
        go_roundw
        case rel => exact ⟨i + 1, 1, _, _, rfl, by go_num, Lib.hid hlt, HK2, HP2, HE2⟩
        case measure => first | (simp [intOf]; done) | (simp [intOf]; omega)
      · rw [if_neg hneg] at hk2
        have hnz : ¬ (dg x i : Int) - (k : Int) - (dg y i : Int) < 0 := by omega
        have f3 : IntKind.i64.wrap ((dg x i : Int) - (k : Int) - (dg y i : Int)) = (o : Int) := by rw [f2, ho, hk2]; omega
        subst hk2
        clear hcellb hvn ho HP hneg f2
        generalize dg x i = da at *
        generalize dg y i = db at *
        have hnz2 : ¬ (o : Int) < 0 := by omega
        go_wp2
        go_roundw
        case rel => exact ⟨i + 1, 0, _, _, rfl, by go_num, Lib.hid hlt, HK2, HP2, HE2⟩
        case measure => first | (simp [intOf]; done) | (simp [intOf]; omega)
    · have hlbz : ¬ (i : Int) < (m : Int) := by omega
      have hy0 : dg y i = 0 := dg_high (by rw [← HM.out]; omega)
      rw [hy0] at ho hk2
      by_cases hneg : dg x i < k + 0
      · rw [if_pos hneg] at hk2
        have hnz : (dg x i : Int) - (k : Int) < 0 := by omega
        have f3 : IntKind.i64.wrap ((dg x i : Int) - (k : Int) + 1000000000) = (o : Int) := by
          rw [show (dg x i : Int) - (k : Int) + 1000000000 = (o : Int) by rw [ho, hk2]; unfold Bq at *; omega]
          exact IntWalk.i64_in _ (by unfold Bq at *; omega)
        subst hk2
        clear ho HP hneg hy0
        generalize dg x i = da at *
        go_wp2
        go_roundw
        case rel => exact ⟨i + 1, 1, _, _, rfl, by go_num, Lib.hid hlt, HK2, HP2, HE2⟩
        case measure => first | (simp [intOf]; done) | (simp [intOf]; omega)
      · rw [if_neg hneg] at hk2
        have f3 : IntKind.i64.wrap ((dg x i : Int) - (k : Int)) = (o : Int) := by rw [f1, ho, hk2]; omega
        subst hk2
        clear ho HP hneg f1 hy0
        generalize dg x i = da at *
        have hnz2 : ¬ (o : Int) < 0 := by omega
        go_wp2
        go_roundw
        case rel => exact ⟨i + 1, 0, _, _, rfl, by go_num, Lib.hid hlt, HK2, HP2, HE2⟩
        case measure => first | (simp [intOf]; done) | (simp [intOf]; omega)
end Go.Proofs.YthodlgjfmddemaaGreatDoor.Rk
