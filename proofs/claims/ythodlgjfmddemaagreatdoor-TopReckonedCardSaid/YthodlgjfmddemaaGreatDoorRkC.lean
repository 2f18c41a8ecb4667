/- Numbers by limbs: the product. -/
import Derived.Test.YthodlgjfmddemaaGreatDoorRkB
namespace Go.Proofs.YthodlgjfmddemaaGreatDoor.Rk
open Go.RowKit

/-- within a row of the product -/
structure TI (w wr : World) (N i k a y c : Nat) (f0 f : Nat → Nat) : Prop where
  below : Below w.heap.size w wr
  blk : LB wr w.heap.size N f
  lt : ∀ j, j < N → f j < Bq
  eq : vl f (i + k) + c * Bq ^ (i + k) = vl f0 (i + k) + a * (y % Bq ^ k) * Bq ^ i
  old : ∀ j, i + k ≤ j → f j = f0 j
  car : c < Bq
theorem TI.step {w wr : World} {N i k a y c : Nat} {f0 f : Nat → Nat} (h : TI w wr N i k a y c f0 f) (ha : a < Bq) (hk : i + k < N) {nn : Nat} (hn : nn = a * dg y k + f (i + k) + c) :
    TI w ((wr.setCell ⟨w.heap.size, i + k, none⟩ (.int .u32 ((nn % Bq : Nat) : Int)))) N i (k + 1) a y (nn / Bq) f0 (up f (i + k) (nn % Bq)) := by
  refine ⟨(h.below.setCell (p := ⟨w.heap.size, i + k, none⟩) (Nat.le_refl _) _), (LB.set h.blk _ _), fun j hj => ?_, ?_, fun j hj => ?_, ?_⟩
  · unfold up; split
    · exact Nat.mod_lt _ Bq_pos
    · exact h.lt j hj
  · rw [← Nat.add_assoc, vl_up_succ, vl_succ f0, ← h.old _ (Nat.le_refl _)]
    exact times_step hn h.eq
  · rw [up_ne (by omega)]; exact h.old j (by omega)
  · rw [Nat.div_lt_iff_lt_mul Bq_pos, hn]
    exact times_carry ha (dg_lt y k) (h.lt _ hk) h.car
theorem TI.drew {w wr : World} {N i k a y c : Nat} {f0 f : Nat → Nat} (h : TI w wr N i k a y c f0 f) : TI w wr.drew N i k a y c f0 f := ⟨h.below.drew, LB.drew h.blk, h.lt, h.eq, h.old, h.car⟩
/-- between the rows -/
structure TO (w wr : World) (N m i x y : Nat) (f : Nat → Nat) : Prop where
  below : Below w.heap.size w wr
  blk : LB wr w.heap.size N f
  lt : ∀ j, j < N → f j < Bq
  val : vl f (i + m) = x % Bq ^ i * y
  zero : ∀ j, i + m ≤ j → f j = 0
theorem vl_zero : ∀ n, vl (fun _ => 0) n = 0
  | 0 => rfl
  | n + 1 => by rw [vl_succ, vl_zero n]; simp
theorem TO.start (w : World) (N m x y : Nat) : TO w (w.alloc (.cells (madeCells #[.int .u32 0] N) 93)) N m 0 x y (fun _ => 0) :=
  ⟨(Below.refl _ _).alloc (Nat.le_refl _) _, LB.made w N, fun _ _ => Bq_pos, by rw [vl_zero]; simp [Nat.mod_one], fun _ _ => rfl⟩
theorem TO.inner {w wr : World} {N m i x y : Nat} {f : Nat → Nat} (h : TO w wr N m i x y f) (a : Nat) : TI w wr N i 0 a y 0 f f :=
  ⟨h.below, h.blk, h.lt, by simp [Nat.mod_one], fun _ _ => rfl, Bq_pos⟩
theorem TO.next {w wr wx : World} {N m i x y c : Nat} {f0 f : Nat → Nat} (h0 : TO w wr N m i x y f0) (h : TI w wx N i m (dg x i) y c f0 f) (hy : nl y ≤ m) :
    TO w (wx.setCell ⟨w.heap.size, i + m, none⟩ (.int .u32 (c : Int))) N m (i + 1) x y (up f (i + m) c) := by
  refine ⟨(h.below.setCell (p := ⟨w.heap.size, i + m, none⟩) (Nat.le_refl _) _), (LB.set h.blk _ _), fun j hj => ?_, ?_, fun j hj => ?_⟩
  · unfold up; split
    · exact h.car
    · exact h.lt j hj
  · rw [show i + 1 + m = i + m + 1 by omega, vl_up_succ]
    exact times_row h0.val h.eq ((lt_pow_iff _ _).2 hy)
  · rw [up_ne (by omega), h.old j (by omega)]; exact h0.zero j (by omega)
theorem TO.drew {w wr : World} {N m i x y : Nat} {f : Nat → Nat} (h : TO w wr N m i x y f) : TO w wr.drew N m i x y f := ⟨h.below.drew, LB.drew h.blk, h.lt, h.val, h.zero⟩
theorem TO.done {w wr : World} {n m x y : Nat} {f : Nat → Nat} (h : TO w wr (n + m) m n x y f) (hx : nl x ≤ n) : RL wr (.slice (some ⟨w.heap.size, 0, none⟩) (n + m) (n + m)) (n + m) (x * y) ∧ x * y < Bq ^ (n + m) := by
  have h0 := h.val
  rw [mod_full hx] at h0
  exact ⟨LB.rl h.blk (dg_of_vl h.lt h0), by rw [← h0]; exact vl_lt h.lt⟩
set_option maxRecDepth 100000 in
set_option maxHeartbeats 3200000 in
theorem times_any (u v : Value) (x y : Nat) (w : World) (hu : NL w u x) (hv : NL w v y) (hx : nl x ≤ 1000000) (hy : nl y ≤ 1000000) :
    Calls Tryz.prog 38 #[u, v] w fun e w' => ∃ r, e = .returned r ∧ NL w' r (x * y) ∧ Below w.heap.size w w' := by
  obtain ⟨A, c, rfl, hc, hA⟩ := RL.form hu
  obtain ⟨A2, c2, rfl, hc2, hA2⟩ := RL.form hv
  have HU := Lib.hid hu
  have HV := Lib.hid hv
  clear hu hv hA hA2 hc hc2
  obtain ⟨n, hn⟩ : ∃ n, n = nl x := ⟨_, rfl⟩
  obtain ⟨m, hm⟩ : ∃ m, m = nl y := ⟨_, rfl⟩
  rw [← hn] at hx ⊢
  rw [← hm] at hy ⊢
  have HN := Lib.hid hn
  have HM := Lib.hid hm
  clear hn hm
  obtain ⟨N, hNN⟩ : ∃ N, N = n + m := ⟨_, rfl⟩
  have es : IntKind.i64.wrap ((n : Int) + (m : Int)) = (N : Int) := by rw [hNN]; exact i64_sum n m (by omega)
  have hmk := run_make_row' (P := Tryz.prog) 46 93 (.int .u32 0) 4 Tryz.underlying46 infoU32 rfl .i64 .i64 N (by omega) (by omega)
  have HNN := Lib.hid hNN
  clear hNN
  go_enter Tryz.func38, Tryz.ntmps38
  go_wp2
  go_loopw [20] (fun s20 wr => ∃ (i : Nat) (f : Nat → Nat), s20 = .int .i64 (i : Int) ∧ Hid (i ≤ n) ∧ Hid (TO w wr N m i x y f)) (fun s20 _ => n - (intOf s20).toNat)
  case atStart => exact ⟨0, fun _ => 0, rfl, Lib.hid (Nat.zero_le _), Lib.hid (TO.start _ _ _ _ _)⟩
  case round =>
    obtain ⟨i, f, rfl, HI, HP⟩ := hrel
    by_cases hlt : i < n
    case neg =>
      obtain rfl : i = n := by have := HI.out; omega
      have hz : ¬ (i : Int) < (i : Int) := by omega
      have hHP := HP.out
      rw [HNN.out] at hHP
      obtain ⟨r1, r2⟩ := hHP.done (by rw [HN.out]; exact Nat.le_refl _)
      rw [← HNN.out] at r1 r2
      have HR1 := Lib.hid r1
      have HR2 := Lib.hid r2
      have hnb : N ≤ 9223372036854775807 := by have := HNN.out; omega
      clear r1 r2 hlt hHP
      go_wp2_with (go_at_call 63; refine (trimmed_any _ N N (x * y) _ HR1.out HR2.out hnb).mono ?_; rintro e w' ⟨rfl, rfl⟩)
      go_ret
      exact ⟨_, rfl, NL.trimmed HR1.out HR2.out, HP.out.below⟩
    have hltz : (i : Int) < (n : Int) := by omega
    have hun := HU.out
    obtain ⟨ba, oa, hAe, hba, hcella⟩ := RL.at hun (by rw [← HN.out]; exact hlt)
    subst hAe
    have hc1 := (HP.out.below.cell (p := ⟨ba, oa + i, none⟩) hba).trans hcella
    have HDA := Lib.hid (dg_lt x i)
    obtain ⟨a, ha⟩ : ∃ a, a = dg x i := ⟨_, rfl⟩
    rw [← ha] at hc1 HDA
    have HAE := Lib.hid ha
    clear hun hcella ha
    go_upto_region 6 with fail
    obtain ⟨wo, hwo⟩ : ∃ wo : World, wo = wr := ⟨_, rfl⟩
    rw [← hwo] at HP hc1 ⊢
    clear hwo
    go_wp2
    go_loopw [8, 27] (fun s8 s27 wr => ∃ (k c : Nat) (g : Nat → Nat), s8 = .int .u64 (c : Int) ∧ s27 = .int .i64 (k : Int) ∧ Hid (k ≤ m) ∧ Hid (TI w wr N i k a y c f g)) (fun _ s27 _ => m - (intOf s27).toNat)
    case atStart => exact ⟨0, 0, f, rfl, rfl, Lib.hid (Nat.zero_le _), Lib.hid (HP.out.inner a)⟩
    case round =>
      obtain ⟨k, c, g, rfl, rfl, HK, HT⟩ := hrel
      obtain ⟨p, hp⟩ : ∃ p, p = i + k := ⟨_, rfl⟩
      by_cases hltk : k < m
      case neg =>
        obtain rfl : k = m := by have := HK.out; omega
        have hz : ¬ (k : Int) < (k : Int) := by omega
        have HT2 := Lib.hid (TO.next HP.out (HAE.out ▸ HT.out) (by rw [HM.out]; exact Nat.le_refl _))
        have hpN : p < N := by have := HNN.out; omega
        have hpz : (p : Int) < (N : Int) := by omega
        have e1 : IntKind.i64.wrap ((i : Int) + (k : Int)) = (p : Int) := by rw [hp]; exact i64_sum i k (by have := HNN.out; omega)
        have hst1 := World.rowIs.cell HT.out.blk hpN
        have hst2 := World.rowIs.frozen HT.out.blk p
        have hcB := HT.out.car
        have f6 : (c : Int) % 4294967296 = (c : Int) := Int.emod_eq_of_lt (by omega) (by unfold Bq at *; omega)
        rw [← hp] at HT2
        clear hltk hcB hp HT HP
        go_wp2
        go_roundw
        case rel => exact ⟨i + 1, _, by go_num, Lib.hid hlt, HT2⟩
        case measure => first | (simp [intOf]; done) | (simp [intOf]; omega)
      have hltkz : (k : Int) < (m : Int) := by omega
      have hpN : p < N := by have := HNN.out; omega
      have hpz : (p : Int) < (N : Int) := by omega
      have e1 : IntKind.i64.wrap ((i : Int) + (k : Int)) = (p : Int) := by rw [hp]; exact i64_sum i k (by have := HNN.out; omega)
      have hst1 := World.rowIs.cell HT.out.blk hpN
      have hst2 := World.rowIs.frozen HT.out.blk p
      have hvn := HV.out
      obtain ⟨bb, ob, hBe, hbb, hcellb⟩ := RL.at hvn (by rw [← HM.out]; exact hltk)
      subst hBe
      have hc2 := (HT.out.below.cell (p := ⟨bb, ob + k, none⟩) hbb).trans hcellb
      have hgB := HT.out.lt p hpN
      have hcB := HT.out.car
      have hdB := dg_lt y k
      have haB := HDA.out
      obtain ⟨P, hP⟩ : ∃ P, P = a * dg y k := ⟨_, rfl⟩
      have hPB : P + g p + c < Bq * Bq := by rw [hP]; exact times_carry haB hdB hgB hcB
      obtain ⟨nn, hnn⟩ : ∃ nn, nn = P + g p + c := ⟨_, rfl⟩
      obtain ⟨lo, hlo⟩ : ∃ o, o = nn % Bq := ⟨_, rfl⟩
      obtain ⟨hi, hhi⟩ : ∃ o, o = nn / Bq := ⟨_, rfl⟩
      have hlB : lo < Bq := by rw [hlo]; exact Nat.mod_lt _ Bq_pos
      have hBB : Bq * Bq = 1000000000000000000 := by decide
      rw [hBB] at hPB
      have hT2 := HT.out.step haB (by rw [← hp]; exact hpN) (nn := nn) (by rw [hnn, hP, ← hp])
      rw [← hp, ← hlo, ← hhi] at hT2
      have HT2 := Lib.hid hT2
      have HT3 := Lib.hid hT2.drew
      have f1 : IntKind.u64.wrap ((a : Int) * (dg y k : Int)) = (P : Int) := by
        rw [show (a : Int) * (dg y k : Int) = (P : Int) by rw [hP]; rfl]
        exact IntWalk.u64_in _ (by omega)
      have f2 : IntKind.u64.wrap ((P : Int) + (g p : Int)) = (P : Int) + (g p : Int) := IntWalk.u64_in _ (by omega)
      have f3 : IntKind.u64.wrap ((P : Int) + (g p : Int) + (c : Int)) = (nn : Int) := by
        rw [show (P : Int) + (g p : Int) + (c : Int) = (nn : Int) by omega]
        exact IntWalk.u64_in _ (by omega)
      have f4 : (nn : Int) % 1000000000 = (lo : Int) := by rw [hlo]; rfl
      have f5 : IntKind.u64.wrap ((nn : Int) / 1000000000) = (hi : Int) := by
        rw [show (nn : Int) / 1000000000 = (hi : Int) by rw [hhi]; rfl]
        exact IntWalk.u64_in _ (by rw [hhi]; unfold Bq; omega)
      have f6 : (lo : Int) % 4294967296 = (lo : Int) := Int.emod_eq_of_lt (by omega) (by unfold Bq at *; omega)
      have f7 : IntKind.u64.wrap (a : Int) = (a : Int) := IntWalk.u64_in _ (by unfold Bq at *; omega)
      have f8 : IntKind.u64.wrap (dg y k : Int) = (dg y k : Int) := IntWalk.u64_in _ (by unfold Bq at *; omega)
      have f9 : IntKind.u64.wrap (g p : Int) = (g p : Int) := IntWalk.u64_in _ (by unfold Bq at *; omega)
      clear hT2 hcellb hvn hP hPB hnn hlo hhi hlB hgB hcB hdB haB hp HT HP
      generalize dg y k = d at *
      generalize g p = gp at *
      go_wp2
      go_roundw
      case rel => exact ⟨k + 1, hi, _, rfl, by go_num, Lib.hid hltk, HT2⟩
      case measure => first | (simp [intOf]; done) | (simp [intOf]; omega)
end Go.Proofs.YthodlgjfmddemaaGreatDoor.Rk
