/- Numbers by limbs: their digits, and numbers out of digits. -/
import Derived.Test.YthodlgjfmddemaaGreatDoorRkS
namespace Go.Proofs.YthodlgjfmddemaaGreatDoor.Rk
open Go.RowKit

theorem toB_app (a b : List UInt8) : toB a ++ toB b = toB (a ++ b) := by
  apply ByteArray.ext
  rw [ByteArray.data_append]
  simp [toB]
theorem BU.keep {w w' : World} {B b : Nat} {l : List UInt8} (h : BU w B b l) (hb : Below w.heap.size w w') : BU w' B b l := by
  have hk : ∀ p, Lib.BuilderAt 91 5 B b p (bytesV l) w → Lib.BuilderAt 91 5 B b p (bytesV l) w' := fun p hh => by
    obtain ⟨hB, v, hk, ho, hne⟩ := hh
    have hlt : b < w.heap.size := (Array.getElem?_eq_some_iff.1 hk).1
    exact ⟨hB, v, (hb.block b hlt).trans hk, ho.kept (row := none) ⟨hb.os, hb.tape, hb.output, hb.size, fun k hk _ => hb.block k hk⟩ (by cases v.ownBlock <;> simp), hne⟩
  rcases h with h | h
  · exact .inl (hk _ h)
  · exact .inr (hk _ h)
theorem BU.new (w : World) : BU (w.alloc (.cells #[.pointer none, .slice none 0 0] 91)) w.heap.size w.heap.size [] :=
  .inl ⟨Nat.le_refl _, .slice none 0 0, heap_alloc_new w _, World.ownsRow_nil _ _ _ _, by simp [Value.ownBlock]⟩
theorem padd_mod : ∀ k x, padd k (x % 10 ^ k) = padd k x
  | 0, _ => rfl
  | k + 1, x => by
    show padd k (x % 10 ^ (k + 1) / 10) ++ [UInt8.ofNat (48 + x % 10 ^ (k + 1) % 10)] = padd k (x / 10) ++ [UInt8.ofNat (48 + x % 10)]
    have h1 : x % 10 ^ (k + 1) / 10 = x / 10 % 10 ^ k := by rw [Nat.pow_succ, Nat.mul_comm, Nat.mod_mul_right_div_self]
    have h2 : x % 10 ^ (k + 1) % 10 = x % 10 := by rw [Nat.pow_succ, Nat.mod_mul_left_mod]
    rw [h1, h2, padd_mod k]
/-- a limb more -/
theorem digs_limb {x i : Nat} (h : i + 1 < nl x) : digs (x / Bq ^ i) = digs (x / Bq ^ (i + 1)) ++ padd 9 (dg x i) := by
  have hB : Bq = 10 ^ 9 := rfl
  have h1 : x / Bq ^ (i + 1) = x / Bq ^ i / 10 ^ 9 := by rw [Nat.pow_succ, ← Nat.div_div_eq_div_mul, hB]
  have h2 : x / Bq ^ (i + 1) ≠ 0 := by
    have := pow_le_of_nl h
    have := Nat.div_pos this (pow_pos' (i + 1))
    omega
  rw [h1] at h2 ⊢
  rw [digs_padd h2]
  congr 1
  unfold dg
  rw [← padd_mod 9 (x / Bq ^ i), hB]
theorem digs_top {x i : Nat} (h : i + 1 = nl x) : digs (x / Bq ^ i) = digs (dg x i) ∧ dg x i ≠ 0 := by
  have h1 : x / Bq ^ i < Bq := by
    rw [Nat.div_lt_iff_lt_mul (pow_pos' i), Nat.mul_comm, ← Nat.pow_succ]
    exact (lt_pow_iff _ _).2 (by omega)
  refine ⟨?_, top_ne h.symm⟩
  unfold dg
  rw [Nat.mod_eq_of_lt h1]
theorem digs_part {x i : Nat} : (digs (x / Bq ^ i)).length ≤ (digs x).length := (digs_len _ _).1 (Nat.lt_of_le_of_lt (Nat.div_le_self _ _) (lt_digs x))
theorem repeat_eq (k : Nat) : Lib.repeatL [48] k = List.replicate k 48 := by
  induction k with
  | zero => rfl
  | succ k ih => unfold Lib.repeatL; rw [ih]; rfl
theorem rep_any (k : Nat) (w : World) (hk : k ≤ 140737488355328) :
    Calls Tryz.prog 32 #[.string ⟨#[48]⟩, .int .i64 (k : Int)] w fun e w' => e = .returned (.string (toB (List.replicate k 48))) ∧ Below w.heap.size w w' := by
  refine (Tryz.strings_Repeat ⟨#[48]⟩ k w (by omega) (by show 1 * k ≤ _; omega)).mono ?_
  rintro e w' ⟨rfl, hb⟩
  refine ⟨?_, hb⟩
  have : Lib.repeatL (ByteArray.mk #[48]).data.toList k = List.replicate k 48 := repeat_eq k
  rw [this]
  rfl
set_option maxRecDepth 100000 in
set_option maxHeartbeats 3200000 in
theorem digits_any (v : Value) (x : Nat) (w : World) (hv : NL w v x) (hp : Pow w) (hl : (digs x).length ≤ 140737488355328) (hn : nl x ≤ 140737488355328) :
    Calls Tryz.prog 31 #[v] w fun e w' => e = .returned (.string (toB (digs x))) ∧ Below w.heap.size w w' := by
  obtain ⟨A, c, rfl, _, _⟩ := RL.form hv
  obtain ⟨n, hnn⟩ : ∃ n, n = nl x := ⟨_, rfl⟩
  unfold NL at hv
  rw [← hnn] at hv hn ⊢
  have HV := Lib.hid hv
  have HN := Lib.hid hnn
  have HP := Lib.hid hp
  have HL := Lib.hid hl
  clear hv hnn hp hl
  have e0 : IntKind.i64.wrap ((n : Int) - 1) = (n : Int) - 1 := IntWalk.i64_in _ (by omega)
  go_enter Tryz.func31, Tryz.ntmps31
  go_wp2_with fail
  have hnb : nl x = n := HN.out.symm
  have HBU0 := Lib.hid (BU.new w)
  have HB0 := Lib.hid ((Below.refl w.heap.size w).alloc (Nat.le_refl _) (.cells #[.pointer none, .slice none 0 0] 91))
  clear hnb
  go_loopw [4] (fun s4 wr => ∃ (i : Nat), s4 = .int .i64 ((i : Int) - 1) ∧ Hid (i ≤ n) ∧ Hid (BU wr w.heap.size w.heap.size (digs (x / Bq ^ i))) ∧ Hid (Below w.heap.size w wr)) (fun s4 _ => (intOf s4 + 1).toNat)
  case atStart => exact ⟨n, rfl, Lib.hid (Nat.le_refl _), Lib.hid (by rw [HN.out, Nat.div_eq_of_lt (lt_nl x), digs_zero]; exact HBU0.out), HB0⟩
  case round =>
    clear HBU0 HB0
    obtain ⟨i, rfl, HI, HBU, HB⟩ := hrel
    have hBw : w.heap.size ≤ wr.heap.size := HB.out.size
    cases i with
    | zero =>
      have hneg : ¬ (-1 : Int) ≥ 0 := by omega
      rw [show (((0 : Nat) : Int) - 1) = -1 by omega]
      have HS := Lib.hid (show BU wr w.heap.size w.heap.size (digs x) by have := HBU.out; rw [Nat.pow_zero, Nat.div_one] at this; exact this)
      have HC := Lib.hid (fun h => Tryz.Builder_String_any w.heap.size w.heap.size (digs x) wr h hBw)
      go_wp2_with fail
      refine (HC.out HS.out).mono ?_
      rintro e w2 ⟨rfl, hb2⟩
      have HF := Lib.hid (HB.out.trans hb2)
      clear hb2
      go_wp2_with fail
      go_ret
      exact ⟨rfl, HF.out⟩
    | succ i =>
      have hin : i < n := HI.out
      obtain ⟨b, off, rfl, hb, hcell⟩ := RL.at HV.out hin
      have hc1 := (HB.out.cell (p := ⟨b, off + i, none⟩) hb).trans hcell
      have hdB := dg_lt x i
      obtain ⟨q1, q2, q3, q4⟩ := limb_padd hdB
      have hHL := HL.out
      have hpart := digs_part (x := x) (i := i)
      have HTop := Lib.hid (digs_top (x := x) (i := i))
      have HLimb := Lib.hid (digs_limb (x := x) (i := i))
      have HIt := Lib.hid (fun W h => itoa_any (dg x i : Int) (by omega) (by unfold Bq at hdB; omega) W h)
      have HPr := Lib.hid (HP.out.keep (HB.out.mono (Nat.le_refl _)))
      clear hcell
      obtain ⟨d, hd⟩ : ∃ d, d = dg x i := ⟨_, rfl⟩
      rw [← hd] at hc1 hdB q1 q2 q3 q4 HTop HLimb HIt
      obtain ⟨S, hS⟩ : ∃ S, S = Lib.itoa (d : Int) := ⟨_, rfl⟩
      have HItS := Lib.hid (show ∀ W, Pow W → Calls Tryz.prog 52 #[.int .i64 (d : Int)] W fun e w' => e = .returned (.string (toB S)) ∧ Below W.heap.size W w' from fun W h => by rw [hS]; exact HIt.out W h)
      rw [← hS] at q1 q2 q3 q4
      have hsz := toB_size S
      rw [show (((i + 1 : Nat) : Int) - 1) = (i : Int) by omega]
      have hi1 : (i : Int) < (n : Int) := by omega
      have k1 : IntKind.i64.wrap (d : Int) = (d : Int) := IntWalk.i64_in _ (by unfold Bq at hdB; omega)
      have hid9 := i64_down i (by omega)
      have Q3 := Lib.hid q3
      have Q4 := Lib.hid q4
      clear hd hS q3 q4 HIt
      by_cases hlast : i + 1 = n
      · have hz : ¬ (i : Int) < (n : Int) - 1 := by omega
        obtain ⟨t1, t2⟩ := HTop.out (by rw [hlast]; exact HN.out)
        have hS2 := Q4.out t2
        have hprev : digs (x / Bq ^ (i + 1)) = [] := by rw [hlast, HN.out, Nat.div_eq_of_lt (lt_nl x), digs_zero]
        have HNow := Lib.hid (show digs (x / Bq ^ i) = [] ++ S by rw [t1, hS2]; rfl)
        have HBUe := Lib.hid (hprev ▸ HBU.out)
        clear hlast t1 t2 hS2 hprev HBU HLimb HTop hpart hHL
        go_wp2_with fail
        refine (HItS.out _ HPr.out).mono ?_
        rintro e w2 ⟨rfl, hb2⟩
        have HBU2 := Lib.hid (HBUe.out.keep hb2)
        have HB2 := Lib.hid (HB.out.trans (hb2.mono hBw))
        clear hb2
        go_wp2_with fail
        refine (ws_any w.heap.size w.heap.size [] S _ HBU2.out (by simp; omega) HB2.out.size).mono ?_
        rintro e w3 ⟨rfl, hbu3, hb3⟩
        have HBU3 := Lib.hid (show BU w3 w.heap.size w.heap.size (digs (x / Bq ^ i)) by rw [HNow.out]; exact hbu3)
        have HB3 := Lib.hid (HB2.out.trans hb3)
        clear hbu3 hb3
        go_wp2_with fail
        go_roundw
        case rel => exact ⟨i, rfl, Lib.hid (by omega), HBU3, HB3⟩
        case measure => first | (simp [intOf]; done) | (simp [intOf]; omega)
      · have hz : (i : Int) < (n : Int) - 1 := by omega
        have hdl := HLimb.out (by rw [← HN.out]; omega)
        obtain ⟨k, hk⟩ : ∃ k, k = 9 - S.length := ⟨_, rfl⟩
        have k2 : IntKind.i64.wrap (9 - (S.length : Int)) = (k : Int) := by
          rw [show 9 - (S.length : Int) = (k : Int) by omega]
          exact IntWalk.i64_in _ (by omega)
        obtain ⟨R, hR⟩ : ∃ R, R = List.replicate k (48 : UInt8) := ⟨_, rfl⟩
        have hRS : R ++ S = padd 9 d := by rw [hR, hk]; exact Q3.out
        have hcat : toB R ++ toB S = toB (padd 9 d) := by rw [toB_app, hRS]
        have hRsz : (toB R).size = k := by rw [toB_size, hR, List.length_replicate]
        have hPl := padd_len 9 d
        have hnlt : ¬ 9223372036854775807 < k + S.length := by omega
        have HRep := Lib.hid (fun W => hR ▸ rep_any k W (by omega))
        have HNow := Lib.hid hdl
        have HLn := Lib.hid (show (digs (x / Bq ^ (i + 1))).length + (padd 9 d).length ≤ 140737488355328 by
          have := congrArg List.length hdl
          rw [List.length_append] at this
          omega)
        clear hlast hdl HLimb HTop hpart hHL hk hR hRS hPl
        go_wp2_with fail
        refine (HItS.out _ HPr.out).mono ?_
        rintro e w2 ⟨rfl, hb2⟩
        have HBU2 := Lib.hid (HBU.out.keep hb2)
        have HB2 := Lib.hid (HB.out.trans (hb2.mono hBw))
        clear hb2
        go_wp2_with fail
        refine (HRep.out _).mono ?_
        rintro e w3 ⟨rfl, hb3⟩
        have HBU3 := Lib.hid (HBU2.out.keep hb3)
        have HB3 := Lib.hid (HB2.out.trans (hb3.mono HB2.out.size))
        clear hb3
        go_wp2_with fail
        refine (ws_any w.heap.size w.heap.size _ (padd 9 d) _ HBU3.out HLn.out HB3.out.size).mono ?_
        rintro e w4 ⟨rfl, hbu4, hb4⟩
        have HBU4 := Lib.hid (show BU w4 w.heap.size w.heap.size (digs (x / Bq ^ i)) by rw [HNow.out]; exact hbu4)
        have HB4 := Lib.hid (HB3.out.trans hb4)
        clear hbu4 hb4
        go_wp2_with fail
        go_roundw
        case rel => exact ⟨i, rfl, Lib.hid (by omega), HBU4, HB4⟩
        case measure => first | (simp [intOf]; done) | (simp [intOf]; omega)
end Go.Proofs.YthodlgjfmddemaaGreatDoor.Rk
