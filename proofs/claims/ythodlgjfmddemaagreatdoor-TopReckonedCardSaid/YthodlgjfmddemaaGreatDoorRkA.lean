/- Numbers by limbs: trimming, comparing, the sum, the difference, the division by one limb. -/
import Derived.Test.YthodlgjfmddemaaGreatDoorRkMem
import Derived.IntWalk
import Derived.BigQuiet
import Derived.LoopTactic
import Derived.RegionTactic
import Derived.StillTailTactics
import Derived.Deep.RegionLaw
import Derived.Deep.LoopGhost
namespace Go.Proofs.YthodlgjfmddemaaGreatDoor.Rk
open Go.RowKit

def sLen (v : Value) : Nat := match v with | .slice _ n _ => n | _ => 0
theorem i64_pred (m : Nat) (h : m ≤ 9223372036854775807) : IntKind.i64.wrap (((m + 1 : Nat) : Int) - 1) = (m : Int) := by
  rw [show ((m + 1 : Nat) : Int) - 1 = (m : Int) by omega]
  exact IntWalk.i64_in _ (by omega)
set_option maxHeartbeats 1600000 in
theorem trimmed_any (A : Option Addr) (n c z : Nat) (w : World) (h : RL w (.slice A n c) n z) (hz : z < Bq ^ n) (hn : n ≤ 9223372036854775807) :
    Calls Tryz.prog 63 #[.slice A n c] w fun e w' => e = .returned (.slice A (nl z) c) ∧ w = w' := by
  have H := Lib.hid h
  have HZ := Lib.hid hz
  clear h hz
  go_enter Tryz.func63, Tryz.ntmps63
  go_wp2
  go_loop [0] (fun s0 => ∃ m : Nat, s0 = .slice A m c ∧ Hid (m ≤ n) ∧ Hid (RL w (.slice A m c) m z) ∧ Hid (z < Bq ^ m)) (fun s0 => sLen s0)
  case atStart => exact ⟨n, rfl, Lib.hid (Nat.le_refl _), H, HZ⟩
  case round =>
    clear H HZ
    obtain ⟨m, rfl, HM, HR, HZ⟩ := hrel
    cases m with
    | zero =>
      have HE := Lib.hid (show Ending.returned (.slice A 0 c) = .returned (.slice A (nl z) c) by rw [nl_eq_zero.2 (by have := HZ.out; simpa using this)])
      go_wp2
      go_ret
      exact ⟨HE.out, rfl⟩
    | succ m =>
      obtain ⟨A', c', e, hc, _, hcell⟩ := HR.out
      obtain ⟨b, off, rfl, hb, hcell⟩ := hcell (Nat.succ_pos m)
      injection e with e1 e2 e3
      subst e1 e3
      have hmc : m ≤ c := by omega
      have hmz : (m : Int) ≤ (c : Int) := by omega
      have hc1 := hcell m (Nat.lt_succ_self m)
      have e1 := i64_pred m (by have := HM.out; omega)
      have hpos : ((m + 1 : Nat) : Int) > 0 := by omega
      have hlt : (m : Int) < ((m + 1 : Nat) : Int) := by omega
      obtain ⟨k, hk⟩ : ∃ k, k = m + 1 := ⟨_, rfl⟩
      have HK := Lib.hid hk
      rw [← hk] at e1 hpos hlt ⊢
      have h0k : 0 < k := by omega
      have hmk : m < k := by omega
      clear hk hcell hc
      by_cases h0 : dg z m = 0
      · have HZ2 := Lib.hid (trim_step HZ.out h0)
        have HR2 := Lib.hid (RL.trim HR.out)
        rw [h0] at hc1
        clear h0 HZ HR
        go_wp2
        go_round
        case rel => exact ⟨m, rfl, Lib.hid (by have := HM.out; omega), HR2, HZ2⟩
        case measure => simp [sLen]; exact hmk
      · have HE := Lib.hid (show Ending.returned (.slice (some ⟨b, off, none⟩) k c) = .returned (.slice (some ⟨b, off, none⟩) (nl z) c) by rw [HK.out, nl_of_top HZ.out (.inr h0)])
        have hne : ((dg z m : Int) == 0) = false := beq_eq_false_iff_ne.2 (by omega)
        have hnz : ¬ (dg z m : Int) = 0 := by omega
        generalize dg z m = x at *
        clear h0 HZ HR
        go_wp2
        go_ret
        exact ⟨HE.out, rfl⟩

theorem i64_down (m : Nat) (h : m ≤ 9223372036854775807) : IntKind.i64.wrap ((m : Int) - 1) = (m : Int) - 1 := IntWalk.i64_in _ (by omega)
theorem LB.made (w : World) (n : Nat) : LB (w.alloc (.cells (madeCells #[.int .u32 0] n) 93)) w.heap.size n (fun _ => 0) := World.rowIs_made w (.int .u32 0) n 93
set_option maxHeartbeats 1600000 in
set_option maxRecDepth 100000 in
theorem short_any (v : Value) (x d : Nat) (w : World) (h : NL w v x) (hn : nl x ≤ 1000000) (hd : 0 < d) (hd2 : d ≤ Bq) :
    Calls Tryz.prog 64 #[v, .int .u32 (d : Int)] w fun e w' => ∃ u, e = .returned (.tuple #[u, .int .u32 ((x % d : Nat) : Int)]) ∧ NL w' u (x / d) ∧ Below w.heap.size w w' := by
  obtain ⟨A, c, rfl, hc, hA, h⟩ := h
  obtain ⟨n, hnn⟩ : ∃ n, n = nl x := ⟨_, rfl⟩
  rw [← hnn] at hn h hc ⊢
  have HN := Lib.hid hnn
  have H := Lib.hid h
  have HC := Lib.hid hc
  have HA := Lib.hid hA
  clear hnn h hc hA
  have hmk := run_make_row' (P := Tryz.prog) 46 93 (.int .u32 0) 4 Tryz.underlying46 infoU32 rfl .i64 .i64 n (by omega) (by omega)
  have e0 := i64_down n (by omega)
  go_enter Tryz.func64, Tryz.ntmps64
  go_wp2
  go_loopw [7, 8] (fun s7 s8 wr => ∃ (i r : Nat) (f : Nat → Nat), s7 = .int .u64 (r : Int) ∧ s8 = .int .i64 ((i : Int) - 1) ∧ Hid (i ≤ n) ∧ Hid (r = x / Bq ^ i % d) ∧ Hid (Below w.heap.size w wr) ∧ Hid (LB wr w.heap.size n f) ∧ Hid (∀ j, i ≤ j → j < n → f j = dg (x / d) j)) (fun _ s8 _ => (intOf s8 + 1).toNat)
  case atStart => exact ⟨n, 0, fun _ => 0, rfl, rfl, Lib.hid (Nat.le_refl _), Lib.hid (by rw [HN.out, Nat.div_eq_of_lt (lt_nl x), Nat.zero_mod]), Lib.hid ((Below.refl _ _).alloc (Nat.le_refl _) _), Lib.hid (LB.made w n), Lib.hid (fun j h1 h2 => by omega)⟩
  case round =>
    obtain ⟨i, r, f, rfl, rfl, HI, HR, HB, HL, HF⟩ := hrel
    cases i with
    | zero =>
      have HRL := Lib.hid (LB.rl HL.out (fun j hj => HF.out j (Nat.zero_le _) hj))
      have hneg : ¬ (-1 : Int) ≥ 0 := by omega
      rw [show (((0 : Nat) : Int) - 1) = -1 by omega]
      have hr : r = x % d := by rw [HR.out, Nat.pow_zero, Nat.div_one]
      have hrm : IntKind.u32.wrap (r : Int) = (r : Int) := IntWalk.u32_in _ (by have := Nat.mod_lt x hd; unfold Bq at *; omega)
      have hz : x / d < Bq ^ n := by rw [HN.out]; exact Nat.lt_of_le_of_lt (Nat.div_le_self _ _) (lt_nl x)
      have hnb : n ≤ 9223372036854775807 := by omega
      have HNL := Lib.hid (show NL wr (.slice (some ⟨w.heap.size, 0, none⟩) (nl (x / d)) n) (x / d) from by
        obtain ⟨A', c', e, _, hA', h⟩ := HRL.out
        injection e with e1 e2 e3
        subst e1 e3
        have hle : nl (x / d) ≤ n := (lt_pow_iff _ _).1 hz
        refine ⟨_, n, rfl, hle, fun h => (by cases h), fun h0 => ?_⟩
        obtain ⟨b, off, e, hb, hc⟩ := h (by omega)
        exact ⟨b, off, e, hb, fun j hj => hc j (by omega)⟩)
      have HE := Lib.hid (show Ending.returned (.tuple #[.slice (some ⟨w.heap.size, 0, none⟩) (nl (x / d)) n, .int .u32 (r : Int)]) = .returned (.tuple #[.slice (some ⟨w.heap.size, 0, none⟩) (nl (x / d)) n, .int .u32 ((x % d : Nat) : Int)]) by rw [hr])
      clear hr
      go_wp2_with (go_at_call 63; refine (trimmed_any _ n n (x / d) _ HRL.out hz hnb).mono ?_; rintro e w' ⟨rfl, rfl⟩)
      go_ret2
      exact ⟨_, HE.out, HNL.out, HB.out⟩
    | succ i =>
      have hin : i < n := HI.out
      obtain ⟨b, off, rfl, hb, hcell⟩ := H.out (by omega)
      have hc1 := (HB.out.cell (p := ⟨b, off + i, none⟩) hb).trans (hcell i hin)
      clear hcell
      rw [show (((i + 1 : Nat) : Int) - 1) = (i : Int) by omega]
      have hi1 : (i : Int) < (n : Int) := by omega
      have hxi := dg_lt x i
      have hrd : r < d := by rw [HR.out]; exact Nat.mod_lt _ hd
      obtain ⟨y, hy⟩ : ∃ y, y = dg x i := ⟨_, rfl⟩
      obtain ⟨p, hp⟩ : ∃ p, p = r * Bq + y := ⟨_, rfl⟩
      have hpB : r * Bq + Bq ≤ Bq * Bq := by
        have : (r + 1) * Bq ≤ Bq * Bq := Nat.mul_le_mul_right _ (by omega)
        rwa [Nat.add_mul, Nat.one_mul] at this
      obtain ⟨hq1, hq2⟩ := div_step (i := i) HR.out
      rw [← hy] at hc1 hxi hq1 hq2
      rw [← hp] at hq1 hq2
      have hqB := dg_lt (x / d) i
      rw [← hq1] at hqB
      have e1 : IntKind.u64.wrap ((r : Int) * 1000000000) = (r : Int) * 1000000000 := IntWalk.u64_in _ (by unfold Bq at *; omega)
      have e2 : IntKind.u64.wrap ((r : Int) * 1000000000 + (y : Int)) = (p : Int) := by
        rw [show (r : Int) * 1000000000 + (y : Int) = (p : Int) by unfold Bq at *; omega]
        exact IntWalk.u64_in _ (by unfold Bq at *; omega)
      have e3 : IntKind.u64.wrap (y : Int) = (y : Int) := IntWalk.u64_in _ (by unfold Bq at *; omega)
      have e4 : IntKind.u64.wrap (d : Int) = (d : Int) := IntWalk.u64_in _ (by unfold Bq at *; omega)
      obtain ⟨q, hq⟩ : ∃ q, q = p / d := ⟨_, rfl⟩
      obtain ⟨t, ht⟩ : ∃ t, t = p % d := ⟨_, rfl⟩
      rw [← hq] at hqB hq1
      rw [← ht] at hq2
      have e5 : IntKind.u64.wrap ((p : Int) / (d : Int)) = (q : Int) := by
        rw [show (p : Int) / (d : Int) = (q : Int) by rw [hq]; rfl]
        exact IntWalk.u64_in _ (by unfold Bq at *; omega)
      have e6 : (q : Int) % 4294967296 = (q : Int) := Int.emod_eq_of_lt (by omega) (by unfold Bq at *; omega)
      have e7 : (p : Int) % (d : Int) = (t : Int) := by rw [ht]; rfl
      have htd : t < d := by rw [ht]; exact Nat.mod_lt _ hd
      have e8 : IntKind.u64.wrap (t : Int) = (t : Int) := IntWalk.u64_in _ (by unfold Bq at *; omega)
      have HT := Lib.hid e7
      clear e7
      have hst1 := World.rowIs.cell HL.out hin
      have hst2 := World.rowIs.frozen HL.out i
      have hd0 : ((d : Int) == 0) = false := beq_eq_false_iff_ne.2 (by omega)
      have hd1 : ¬ (d : Int) = 0 := by omega
      have HP := Lib.hid (And.intro hp (And.intro hq1 (And.intro hq2 hy)))
      clear hp hy hq1 hq2 hpB hqB hxi hrd hq ht htd
      go_wp2
      go_region
      rw [HT.out]
      have HL2 := Lib.hid ((LB.set HL.out i q).drew)
      have HB2 := Lib.hid ((HB.out.setCell (p := ⟨w.heap.size, i, none⟩) (Nat.le_refl _) (.int .u32 (q : Int))).drew)
      have HF2 := Lib.hid (show ∀ j, i ≤ j → j < n → up f i q j = dg (x / d) j from fun j h1 h2 => by
        by_cases e : j = i
        · subst e; rw [up_self]; exact HP.out.2.1
        · rw [up_ne e]; exact HF.out j (by omega) h2)
      have HR2 := Lib.hid (show t = x / Bq ^ i % d from HP.out.2.2.1)
      clear hst1 hst2 hc1 HL HB HF HR
      go_wp2
      go_roundw
      case rel => exact ⟨i, t, up f i q, rfl, rfl, Lib.hid (by omega), HR2, HB2, HL2, HF2⟩
      case measure => first | (simp [intOf]; done) | (simp [intOf]; omega)
end Go.Proofs.YthodlgjfmddemaaGreatDoor.Rk
