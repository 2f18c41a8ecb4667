/- Numbers by limbs: taking a multiple away in place. -/
import Derived.Test.YthodlgjfmddemaaGreatDoorRkC
import Derived.Test.YthodlgjfmddemaaGreatDoorOnly
namespace Go.Proofs.YthodlgjfmddemaaGreatDoor.Rk
open Go.RowKit

/-- a block whose first cells are limbs -/
def UB (w : World) (g m : Nat) (f : Nat → Nat) : Prop := ∃ cs : Array Value, w.heap[g]? = some (.cells cs 93 (0, 0)) ∧ m ≤ cs.size ∧ ∀ j, j < m → cs[j]? = some (.int .u32 (f j : Int))
theorem UB.lt {w : World} {g m : Nat} {f : Nat → Nat} (h : UB w g m f) : g < w.heap.size := by
  obtain ⟨cs, h, _⟩ := h
  exact (Array.getElem?_eq_some_iff.1 h).1
theorem UB.cell {w : World} {g m : Nat} {f : Nat → Nat} (h : UB w g m f) {i : Nat} (hi : i < m) : w.cell? ⟨g, i, none⟩ = some (.int .u32 (f i : Int)) := by
  obtain ⟨cs, h, hs, hc⟩ := h
  simp [World.cell?, h, hc i hi]
theorem UB.frozen {w : World} {g m : Nat} {f : Nat → Nat} (h : UB w g m f) (i : Nat) : w.frozen? ⟨g, i, none⟩ = false := by
  obtain ⟨cs, h, _⟩ := h
  simp [World.frozen?, h]
theorem UB.set {w : World} {g m : Nat} {f : Nat → Nat} (h : UB w g m f) (i c : Nat) : UB (w.setCell ⟨g, i, none⟩ (.int .u32 (c : Int))) g m (up f i c) := by
  obtain ⟨cs, h, hs, hc⟩ := h
  refine ⟨cs.setIfInBounds i (.int .u32 (c : Int)), ?_, by simpa using hs, fun j hj => ?_⟩
  · simp [World.setCell, Array.getElem?_modify, h]
  · rw [Array.getElem?_setIfInBounds]
    unfold up
    by_cases e : j = i
    · subst e
      rw [if_pos rfl, if_pos rfl, if_pos (by omega)]
    · rw [if_neg (fun h => e h.symm), if_neg e]
      exact hc j hj
theorem UB.of_block {w w' : World} {g m : Nat} {f : Nat → Nat} (h : UB w g m f) (e : w'.heap[g]? = w.heap[g]?) : UB w' g m f := by
  obtain ⟨cs, h, hs, hc⟩ := h
  exact ⟨cs, e.trans h, hs, hc⟩
theorem UB.drew {w : World} {g m : Nat} {f : Nat → Nat} (h : UB w g m f) : UB w.drew g m f := h
theorem UB.congr {w : World} {g m : Nat} {f f' : Nat → Nat} (h : UB w g m f) (e : ∀ j, j < m → f j = f' j) : UB w g m f' := by
  obtain ⟨cs, h, hs, hc⟩ := h
  exact ⟨cs, h, hs, fun j hj => by rw [hc j hj, e j hj]⟩
def win (f : Nat → Nat) (k : Nat) : Nat → Nat := fun j => f (k + j)
theorem vl_win_up {f : Nat → Nat} {k i c : Nat} : vl (win (up f (k + i) c) k) (i + 1) = vl (win f k) i + c * Bq ^ i := by
  rw [vl_succ]
  congr 1
  · refine vl_congr fun j hj => ?_
    unfold win
    rw [up_ne (by omega)]
  · unfold win
    rw [up_self]
/-- taking away, so far -/
structure RD (w wr : World) (g L k i q V b : Nat) (f f' : Nat → Nat) : Prop where
  only : Only g w wr
  blk : UB wr g L f'
  lt : ∀ j, j < L → f' j < Bq
  eq : vl (win f' k) i + q * (V % Bq ^ i) = vl (win f k) i + b * Bq ^ i
  old : ∀ j, j < k ∨ k + i ≤ j → f' j = f j
theorem RD.start {w : World} {g L k q V : Nat} {f : Nat → Nat} (h : UB w g L f) (hf : ∀ j, j < L → f j < Bq) : RD w w g L k 0 q V 0 f f :=
  ⟨Only.refl _ _, h, hf, by simp [Nat.mod_one], fun _ _ => rfl⟩
theorem RD.step {w wr : World} {g L k i q V b : Nat} {f f' : Nat → Nat} (h : RD w wr g L k i q V b f f') {o b2 : Nat} (ho : o < Bq) (hn : o + b + q * dg V i = f' (k + i) + b2 * Bq) :
    RD w (wr.setCell ⟨g, k + i, none⟩ (.int .u32 (o : Int))) g L k (i + 1) q V b2 f (up f' (k + i) o) := by
  refine ⟨h.only.setCell _, h.blk.set _ _, fun j hj => ?_, ?_, fun j hj => ?_⟩
  · unfold up; split
    · exact ho
    · exact h.lt j hj
  · rw [vl_win_up, vl_succ (win f k)]
    have : win f k i = f' (k + i) := (h.old _ (.inr (Nat.le_refl _))).symm
    rw [this]
    exact red_step hn h.eq
  · rw [up_ne (by omega)]
    exact h.old j (by omega)
/-- adding back, so far -/
structure RE (w wr : World) (g L k i V c : Nat) (f f' : Nat → Nat) : Prop where
  only : Only g w wr
  blk : UB wr g L f'
  lt : ∀ j, j < L → f' j < Bq
  eq : vl (win f' k) i + c * Bq ^ i = vl (win f k) i + V % Bq ^ i
  old : ∀ j, j < k ∨ k + i ≤ j → f' j = f j
theorem RE.start {w wr : World} {g L k V : Nat} {f : Nat → Nat} (h0 : Only g w wr) (h : UB wr g L f) (hf : ∀ j, j < L → f j < Bq) : RE w wr g L k 0 V 0 f f :=
  ⟨h0, h, hf, by simp [Nat.mod_one], fun _ _ => rfl⟩
theorem RE.step {w wr : World} {g L k i V c : Nat} {f f' : Nat → Nat} (h : RE w wr g L k i V c f f') {nn : Nat} (hn : nn = f' (k + i) + c + dg V i) :
    RE w (wr.setCell ⟨g, k + i, none⟩ (.int .u32 ((nn % Bq : Nat) : Int))) g L k (i + 1) V (nn / Bq) f (up f' (k + i) (nn % Bq)) := by
  refine ⟨h.only.setCell _, h.blk.set _ _, fun j hj => ?_, ?_, fun j hj => ?_⟩
  · unfold up; split
    · exact Nat.mod_lt _ Bq_pos
    · exact h.lt j hj
  · rw [vl_win_up, vl_succ (win f k)]
    have : win f k i = f' (k + i) := (h.old _ (.inr (Nat.le_refl _))).symm
    rw [this]
    exact back_step hn h.eq
  · rw [up_ne (by omega)]
    exact h.old j (by omega)
/-- what taking away leaves -/
def RedP (w : World) (g L k n V U : Nat) (f : Nat → Nat) (e : Ending) (w' : World) : Prop := ∃ f', e = .returned (.int .u64 ((U / V : Nat) : Int)) ∧ Only g w w' ∧ UB w' g L f' ∧ (∀ j, j < L → f' j < Bq) ∧ (∀ j, j < k ∨ k + n < j → f' j = f j) ∧ vl (win f' k) (n + 1) = U % V
theorem red_a (a b lo : Nat) (ha : a < Bq) (hb : b ≤ Bq + 3) (hl : lo < Bq) (h : a < b + lo) : ∃ m o : Nat, m = (b + lo - a + Bq - 1) / Bq ∧ o = a + m * Bq - (b + lo) ∧ o < Bq ∧ m ≤ 3 ∧ 1 ≤ m ∧ b + lo ≤ a + m * Bq := by
  refine ⟨_, _, rfl, rfl, ?_⟩
  unfold Bq at *
  omega
set_option maxRecDepth 100000 in
set_option maxHeartbeats 3200000 in
theorem reduce_any (g L cap k : Nat) (v : Value) (V q : Nat) (f : Nat → Nat) (w : World) (hx : UB w g L f) (hf : ∀ j, j < L → f j < Bq) (hv : NL w v V) (hV0 : 0 < V) (hfar : ∀ b, v.ownBlock = some b → b ≠ g)
    (hL : L ≤ 10000000) (hk : k + nl V < L) (hq : q < Bq) (hlo : vl (win f k) (nl V + 1) / V ≤ q) (hhi : q * V < vl (win f k) (nl V + 1) + V) :
    Calls Tryz.prog 80 #[.slice (some ⟨g, 0, none⟩) L cap, .int .i64 (k : Int), v, .int .u64 (q : Int)] w (RedP w g L k (nl V) V (vl (win f k) (nl V + 1)) f) := by
  obtain ⟨A2, c2, rfl, hc2, hA2⟩ := RL.form hv
  obtain ⟨U, hU⟩ : ∃ U, U = vl (win f k) (nl V + 1) := ⟨_, rfl⟩
  rw [← hU] at hlo hhi ⊢
  obtain ⟨n, hn⟩ : ∃ n, n = nl V := ⟨_, rfl⟩
  have HV := Lib.hid hv
  have HG := Lib.hid (kd_guess hlo hhi hV0)
  rw [← hn] at hU hk hfar ⊢
  have HN := Lib.hid hn
  have HU := Lib.hid hU
  have HX := Lib.hid (RD.start (k := k) (q := q) (V := V) hx hf)
  have HFar := Lib.hid hfar
  have HF := Lib.hid hf
  obtain ⟨Q, hQ⟩ : ∃ Q, RedP w g L k n V U f = Q := ⟨_, rfl⟩
  rw [hQ]
  have HQ := Lib.hid hQ
  clear hv hlo hhi hn hU hx hf hfar hQ hc2 hA2
  obtain ⟨n1, hn1⟩ : ∃ n1, n1 = n + 1 := ⟨_, rfl⟩
  have es : IntKind.i64.wrap ((n : Int) + 1) = (n1 : Int) := by rw [hn1]; exact i64_sum n 1 (by omega)
  have HN1 := Lib.hid hn1
  clear hn1
  go_enter Tryz.func80, Tryz.ntmps80
  go_wp2
  go_loopw [9, 19] (fun s9 s19 wr => ∃ (i b : Nat) (f' : Nat → Nat), s9 = .int .i64 (b : Int) ∧ s19 = .int .i64 (i : Int) ∧ Hid (i ≤ n1) ∧ Hid (b ≤ Bq + 3) ∧ Hid (RD w wr g L k i q V b f f')) (fun _ s19 _ => n1 - (intOf s19).toNat)
  case atStart => exact ⟨0, 0, f, rfl, rfl, Lib.hid (Nat.zero_le _), Lib.hid (Nat.zero_le _), HX⟩
  case round =>
    clear HX
    obtain ⟨i, b, f', rfl, rfl, HI, HB, HR⟩ := hrel
    by_cases hlt : i < n1
    case neg =>
      obtain rfl : i = n1 := by have := HI.out; omega
      have hz : ¬ (i : Int) < (i : Int) := by omega
      have heq := HR.out.eq
      have hgl : vl (win f' k) i < Bq ^ i := vl_lt fun j hj => HR.out.lt _ (by have := HN1.out; omega)
      have hUl : U < Bq ^ i := by rw [HU.out, ← HN1.out]; exact vl_lt fun j hj => HF.out _ (by have := HN1.out; omega)
      have hVl : V < Bq ^ i := (lt_pow_iff _ _).2 (by rw [← HN.out]; have := HN1.out; omega)
      rw [Nat.mod_eq_of_lt hVl, show vl (win f k) i = U by rw [HU.out, HN1.out]] at heq
      have hex := red_exact hgl hUl hVl heq HG.out hV0
      have hold := Lib.hid HR.out.old
      by_cases hb0 : b = 0
      · have hq1 : q = U / V ∧ vl (win f' k) i = U % V := by
          rcases hex with h | h
          · exact h.2
          · exact absurd hb0 h.1
        have HF := Lib.hid (show RedP w g L k n V U f (.returned (.int .u64 (q : Int))) wr from ⟨f', by rw [hq1.1], HR.out.only, HR.out.blk, HR.out.lt, fun j hj => hold.out j (by have := HN1.out; omega), by rw [← HN1.out]; exact hq1.2⟩)
        subst hb0
        clear hex hq1 heq hgl hUl hVl
        go_wp2
        rw [← HQ.out]
        exact HF.out
      · have hbz : ¬ (b : Int) = 0 := by omega
        have hbb : ((b : Int) == 0) = false := beq_eq_false_iff_ne.2 hbz
        have hq2 : b ≠ 0 ∧ q - 1 = U / V ∧ ∀ c g2, g2 < Bq ^ i → g2 + c * Bq ^ i = vl (win f' k) i + V → g2 = U % V := by
          rcases hex with h | h
          · exact absurd h.1 hb0
          · exact h
        have HX := Lib.hid hq2.2.2
        have HQ1 := Lib.hid hq2.2.1
        have HQ0 := Lib.hid (show 0 < q from by
          rcases Nat.eq_zero_or_pos q with h0 | h0
          · exfalso
            subst h0
            rcases HG.out with h | h
            · rcases hex with e | e
              · exact hb0 e.1
              · rw [Nat.zero_mul, Nat.add_zero] at heq
                have : b * Bq ^ i < 1 * Bq ^ i := by omega
                have := Nat.lt_of_mul_lt_mul_right this
                omega
            · omega
          · exact h0)
        have HVl := Lib.hid hVl
        have HRE := Lib.hid (RE.start (k := k) (V := V) HR.out.only HR.out.blk HR.out.lt)
        clear hex hq2 heq hgl hUl hVl hb0 HR
        obtain ⟨wo, hwo⟩ : ∃ wo : World, wo = wr := ⟨_, rfl⟩
        rw [← hwo] at HRE ⊢
        clear hwo
        go_wp2
        go_loopw [13, 83] (fun s13 s83 wr => ∃ (j c : Nat) (h : Nat → Nat), s13 = .int .u32 (c : Int) ∧ s83 = .int .i64 (j : Int) ∧ Hid (j ≤ i) ∧ Hid (c ≤ 1) ∧ Hid (RE w wr g L k j V c f' h)) (fun _ s83 _ => i - (intOf s83).toNat)
        case atStart => exact ⟨0, 0, f', rfl, rfl, Lib.hid (Nat.zero_le _), Lib.hid (Nat.zero_le _), HRE⟩
        case round =>
          clear HRE
          obtain ⟨j, c, h, rfl, rfl, HJ, HC, HR⟩ := hrel
          by_cases hlj : j < i
          case neg =>
            obtain rfl : j = i := by have := HJ.out; omega
            have hz2 : ¬ (j : Int) < (j : Int) := by omega
            have heq := HR.out.eq
            rw [Nat.mod_eq_of_lt HVl.out] at heq
            have hgl : vl (win h k) j < Bq ^ j := vl_lt fun t ht => HR.out.lt _ (by have := HN1.out; omega)
            have hU2 := HX.out c _ hgl heq
            have hqv : q - 1 = U / V := HQ1.out
            have hqz : ((q : Int) - 1) = ((U / V : Nat) : Int) := by rw [← hqv]; have := HQ0.out; omega
            have f1 : IntKind.u64.wrap ((q : Int) - 1) = ((U / V : Nat) : Int) := by rw [hqz]; exact IntWalk.u64_in _ (by unfold Bq at *; omega)
            have HF := Lib.hid (show RedP w g L k n V U f (.returned (.int .u64 ((U / V : Nat) : Int))) wr from ⟨h, rfl, HR.out.only, HR.out.blk, HR.out.lt, fun t ht => by
              rw [HR.out.old t (by have := HN1.out; omega)]
              exact hold.out t (by have := HN1.out; omega), by rw [← HN1.out]; exact hU2⟩)
            clear heq hgl hU2 hqv hqz
            generalize U / V = qq at *
            go_wp2
            rw [← HQ.out]
            exact HF.out
          have hljz : (j : Int) < (i : Int) := by omega
          have hj9 : j ≤ 10000000 := by have := HN1.out; omega
          obtain ⟨p, hp⟩ : ∃ p, p = k + j := ⟨_, rfl⟩
          have hpL : p < L := by have := HN1.out; omega
          have hpLz : (p : Int) < (L : Int) := by omega
          have e1 : IntKind.i64.wrap ((k : Int) + (j : Int)) = (p : Int) := by rw [hp]; exact i64_sum k j (by omega)
          have hst1 := HR.out.blk.cell hpL
          have hst2 := HR.out.blk.frozen p
          have haB := HR.out.lt p hpL
          have hc1 := HC.out
          have hvB := dg_lt V j
          obtain ⟨a, ha⟩ : ∃ a, a = h p := ⟨_, rfl⟩
          rw [← ha] at hst1 haB
          obtain ⟨nn, hnn⟩ : ∃ nn, nn = a + c + dg V j := ⟨_, rfl⟩
          obtain ⟨lo, hlo⟩ : ∃ o, o = nn % Bq := ⟨_, rfl⟩
          obtain ⟨c2, hc2⟩ : ∃ o, o = nn / Bq := ⟨_, rfl⟩
          have hR2 := HR.out.step (nn := nn) (by rw [← hp, ← ha]; exact hnn)
          rw [← hp, ← hlo, ← hc2] at hR2
          have HR2 := Lib.hid hR2
          have HC2 := Lib.hid (show c2 ≤ 1 by rw [hc2]; unfold Bq at *; omega)
          have f1 : IntKind.u32.wrap ((a : Int) + (c : Int)) = (a : Int) + (c : Int) := IntWalk.u32_in _ (by unfold Bq at *; omega)
          have f3 : (nn : Int) % 1000000000 = (lo : Int) := by rw [hlo]; rfl
          have f4 : IntKind.u32.wrap ((nn : Int) / 1000000000) = (c2 : Int) := by
            rw [show (nn : Int) / 1000000000 = (c2 : Int) by rw [hc2]; rfl]
            exact IntWalk.u32_in _ (by have := HC2.out; omega)
          by_cases hjn : j < n
          · have hjnz : (j : Int) < (n : Int) := by omega
            have hvn := HV.out
            obtain ⟨bb, ob, hBe, hbb, hcellb⟩ := RL.at hvn (by rw [← HN.out]; exact hjn)
            subst hBe
            have hbg : bb ≠ g := HFar.out bb rfl
            have hc3 : wr.cell? ⟨bb, ob + j, none⟩ = _ := (World.cell?_of_block (a := ⟨bb, ob + j, none⟩) (HR.out.only.block bb hbb hbg)).trans hcellb
            have f2 : IntKind.u32.wrap ((a : Int) + (c : Int) + (dg V j : Int)) = (nn : Int) := by
              rw [show (a : Int) + (c : Int) + (dg V j : Int) = (nn : Int) by omega]
              exact IntWalk.u32_in _ (by unfold Bq at *; omega)
            clear hR2 hnn hlo hc2 ha hp hvn hcellb hvB haB HR
            generalize dg V j = d at *
            go_wp2
            go_roundw
            case rel => exact ⟨j + 1, c2, _, rfl, by go_num, Lib.hid hlj, HC2, HR2⟩
            case measure => first | (simp [intOf]; done) | (simp [intOf]; omega)
          · have hjnz : ¬ (j : Int) < (n : Int) := by omega
            have hd0 : dg V j = 0 := dg_high (by rw [← HN.out]; omega)
            have f2 : IntKind.u32.wrap ((a : Int) + (c : Int)) = (nn : Int) := by rw [f1]; omega
            clear hR2 hnn hlo hc2 ha hp hvB haB HR hd0 f1
            go_wp2
            go_roundw
            case rel => exact ⟨j + 1, c2, _, rfl, by go_num, Lib.hid hlj, HC2, HR2⟩
            case measure => first | (simp [intOf]; done) | (simp [intOf]; omega)
    have hltz : (i : Int) < (n1 : Int) := by omega
    have hi9 : i ≤ 10000000 := by have := HN1.out; omega
    obtain ⟨p, hp⟩ : ∃ p, p = k + i := ⟨_, rfl⟩
    have hpL : p < L := by have := HN1.out; omega
    have hpLz : (p : Int) < (L : Int) := by omega
    have e1 : IntKind.i64.wrap ((k : Int) + (i : Int)) = (p : Int) := by rw [hp]; exact i64_sum k i (by omega)
    have hst1 := HR.out.blk.cell hpL
    have hst2 := HR.out.blk.frozen p
    have haB := HR.out.lt p hpL
    have hbB := HB.out
    have hvB := dg_lt V i
    obtain ⟨a, ha⟩ : ∃ a, a = f' p := ⟨_, rfl⟩
    rw [← ha] at hst1 haB
    have HS := Lib.hid (fun (o b2 : Nat) ho hn => (hp ▸ (HR.out.step (o := o) (b2 := b2) ho (by rw [← hp, ← ha]; exact hn)) : RD w (wr.setCell ⟨g, p, none⟩ (.int .u32 (o : Int))) g L k (i + 1) q V b2 f (up f' p o)))
    have f0 : IntKind.i64.wrap (a : Int) = (a : Int) := IntWalk.i64_in _ (by unfold Bq at *; omega)
    have f1 : IntKind.i64.wrap ((a : Int) - (b : Int)) = (a : Int) - (b : Int) := IntWalk.i64_in _ (by unfold Bq at *; omega)
    by_cases hin : i < n
    · have hinz : (i : Int) < (n : Int) := by omega
      have hvn := HV.out
      obtain ⟨bb, ob, hBe, hbb, hcellb⟩ := RL.at hvn (by rw [← HN.out]; exact hin)
      subst hBe
      have hbg : bb ≠ g := HFar.out bb rfl
      have hc2 : wr.cell? ⟨bb, ob + i, none⟩ = _ := (World.cell?_of_block (a := ⟨bb, ob + i, none⟩) (HR.out.only.block bb hbb hbg)).trans hcellb
      obtain ⟨P, hP⟩ : ∃ P, P = q * dg V i := ⟨_, rfl⟩
      obtain ⟨lo, hlo⟩ : ∃ o, o = P % Bq := ⟨_, rfl⟩
      obtain ⟨hi, hhi⟩ : ∃ o, o = P / Bq := ⟨_, rfl⟩
      have hlB : lo < Bq := by rw [hlo]; exact Nat.mod_lt _ Bq_pos
      have hPlh : P = lo + hi * Bq := by rw [hlo, hhi, Nat.mul_comm, Nat.mod_add_div]
      have hPB : P < Bq * Bq := by rw [hP]; have := times_carry hq hvB Bq_pos Bq_pos; omega
      have hBB : Bq * Bq = 1000000000000000000 := by decide
      rw [hBB] at hPB
      have hhB : hi < Bq := by rw [hhi, Nat.div_lt_iff_lt_mul Bq_pos, hBB]; exact hPB
      rw [← hP] at HS
      have f2 : IntKind.u64.wrap ((q : Int) * (dg V i : Int)) = (P : Int) := by
        rw [show (q : Int) * (dg V i : Int) = (P : Int) by rw [hP]; rfl]
        exact IntWalk.u64_in _ (by omega)
      have f3 : (P : Int) % 1000000000 = (lo : Int) := by rw [hlo]; rfl
      have f4 : IntKind.u64.wrap ((P : Int) / 1000000000) = (hi : Int) := by
        rw [show (P : Int) / 1000000000 = (hi : Int) by rw [hhi]; rfl]
        exact IntWalk.u64_in _ (by unfold Bq at *; omega)
      have f5 : IntKind.i64.wrap (lo : Int) = (lo : Int) := IntWalk.i64_in _ (by unfold Bq at *; omega)
      have f6 : IntKind.i64.wrap (hi : Int) = (hi : Int) := IntWalk.i64_in _ (by unfold Bq at *; omega)
      have f7 : IntKind.u64.wrap (dg V i : Int) = (dg V i : Int) := IntWalk.u64_in _ (by unfold Bq at *; omega)
      clear hP hlo hhi hvn hcellb hvB
      generalize dg V i = d at *
      by_cases hneg : a < b + lo
      · obtain ⟨m, o, hm, ho, hoB, hm3, hm1, hle⟩ := red_a a b lo haB hbB hlB hneg
        obtain ⟨n0, hn0⟩ : ∃ n0 : Int, n0 = (a : Int) - (b : Int) - (lo : Int) := ⟨_, rfl⟩
        have hnz : n0 < 0 := by omega
        obtain ⟨t, ht⟩ : ∃ t : Nat, t = b + lo - a + Bq - 1 := ⟨_, rfl⟩
        have g1 : IntKind.i64.wrap ((a : Int) - (b : Int) - (lo : Int)) = n0 := by
          rw [← hn0]
          exact IntWalk.i64_in _ (by unfold Bq at *; omega)
        have g2 : IntKind.i64.wrap (-n0) = -n0 := IntWalk.i64_in _ (by unfold Bq at *; omega)
        have g3 : IntKind.i64.wrap (-n0 + 1000000000) = -n0 + 1000000000 := IntWalk.i64_in _ (by unfold Bq at *; omega)
        have g4 : IntKind.i64.wrap (-n0 + 1000000000 - 1) = (t : Int) := by
          rw [show -n0 + 1000000000 - 1 = (t : Int) by unfold Bq at *; omega]
          exact IntWalk.i64_in _ (by unfold Bq at *; omega)
        have g5 : (t : Int) / 1000000000 = (m : Int) := by rw [hm, ht]; rfl
        have g5' : (t : Int).tdiv 1000000000 = (m : Int) := by rw [hm, ht]; rfl
        have g6 : IntKind.i64.wrap (m : Int) = (m : Int) := IntWalk.i64_in _ (by omega)
        have g7 : IntKind.i64.wrap ((m : Int) * 1000000000) = (m : Int) * 1000000000 := IntWalk.i64_in _ (by omega)
        have g8 : IntKind.i64.wrap (n0 + (m : Int) * 1000000000) = (o : Int) := by
          rw [show n0 + (m : Int) * 1000000000 = (o : Int) by unfold Bq at *; omega]
          exact IntWalk.i64_in _ (by unfold Bq at *; omega)
        have g9 : IntKind.i64.wrap ((hi : Int) + (m : Int)) = ((hi + m : Nat) : Int) := i64_sum hi m (by unfold Bq at *; omega)
        have h1 : IntKind.u32.wrap (o : Int) = (o : Int) := IntWalk.u32_in _ (by unfold Bq at *; omega)
        have h2 : (o : Int) % 4294967296 = (o : Int) := Int.emod_eq_of_lt (by omega) (by unfold Bq at *; omega)
        have HR2 := Lib.hid (HS.out o (hi + m) hoB (by rw [Nat.add_mul]; omega))
        have HB2 := Lib.hid (show hi + m ≤ Bq + 3 by omega)
        clear HS hneg hm ho hoB hm1 hle hn0 ht hPlh hPB hBB hhB hlB ha hp HR
        go_wp2
        go_roundw
        case rel => exact ⟨i + 1, hi + m, _, rfl, by go_num, Lib.hid hlt, HB2, HR2⟩
        case measure => first | (simp [intOf]; done) | (simp [intOf]; omega)
      · obtain ⟨o, ho⟩ : ∃ o : Nat, o = a - (b + lo) := ⟨_, rfl⟩
        have hoB : o < Bq := by omega
        have g1 : IntKind.i64.wrap ((a : Int) - (b : Int) - (lo : Int)) = (o : Int) := by
          rw [show (a : Int) - (b : Int) - (lo : Int) = (o : Int) by omega]
          exact IntWalk.i64_in _ (by unfold Bq at *; omega)
        have hnz : ¬ (o : Int) < 0 := by omega
        have h1 : IntKind.u32.wrap (o : Int) = (o : Int) := IntWalk.u32_in _ (by unfold Bq at *; omega)
        have h2 : (o : Int) % 4294967296 = (o : Int) := Int.emod_eq_of_lt (by omega) (by unfold Bq at *; omega)
        have HR2 := Lib.hid (HS.out o hi hoB (by omega))
        have HB2 := Lib.hid (show hi ≤ Bq + 3 by omega)
        clear HS hneg ho hoB hPlh hPB hBB hhB hlB ha hp HR
        go_wp2
        go_roundw
        case rel => exact ⟨i + 1, hi, _, rfl, by go_num, Lib.hid hlt, HB2, HR2⟩
        case measure => first | (simp [intOf]; done) | (simp [intOf]; omega)
    · have hinz : ¬ (i : Int) < (n : Int) := by omega
      have hd0 : dg V i = 0 := dg_high (by rw [← HN.out]; omega)
      rw [hd0] at HS
      by_cases hneg : a < b + 0
      · obtain ⟨m, o, hm, ho, hoB, hm3, hm1, hle⟩ := red_a a b 0 haB hbB Bq_pos hneg
        obtain ⟨n0, hn0⟩ : ∃ n0 : Int, n0 = (a : Int) - (b : Int) := ⟨_, rfl⟩
        have hnz : n0 < 0 := by omega
        obtain ⟨t, ht⟩ : ∃ t : Nat, t = b + 0 - a + Bq - 1 := ⟨_, rfl⟩
        have g1 : IntKind.i64.wrap ((a : Int) - (b : Int)) = n0 := by rw [f1, hn0]
        have g2 : IntKind.i64.wrap (-n0) = -n0 := IntWalk.i64_in _ (by unfold Bq at *; omega)
        have g3 : IntKind.i64.wrap (-n0 + 1000000000) = -n0 + 1000000000 := IntWalk.i64_in _ (by unfold Bq at *; omega)
        have g4 : IntKind.i64.wrap (-n0 + 1000000000 - 1) = (t : Int) := by
          rw [show -n0 + 1000000000 - 1 = (t : Int) by unfold Bq at *; omega]
          exact IntWalk.i64_in _ (by unfold Bq at *; omega)
        have g5 : (t : Int) / 1000000000 = (m : Int) := by rw [hm, ht]; rfl
        have g5' : (t : Int).tdiv 1000000000 = (m : Int) := by rw [hm, ht]; rfl
        have g6 : IntKind.i64.wrap (m : Int) = (m : Int) := IntWalk.i64_in _ (by omega)
        have g7 : IntKind.i64.wrap ((m : Int) * 1000000000) = (m : Int) * 1000000000 := IntWalk.i64_in _ (by omega)
        have g8 : IntKind.i64.wrap (n0 + (m : Int) * 1000000000) = (o : Int) := by
          rw [show n0 + (m : Int) * 1000000000 = (o : Int) by unfold Bq at *; omega]
          exact IntWalk.i64_in _ (by unfold Bq at *; omega)
        have h1 : IntKind.u32.wrap (o : Int) = (o : Int) := IntWalk.u32_in _ (by unfold Bq at *; omega)
        have h2 : (o : Int) % 4294967296 = (o : Int) := Int.emod_eq_of_lt (by omega) (by unfold Bq at *; omega)
        have HR2 := Lib.hid (HS.out o m hoB (by omega))
        have HB2 := Lib.hid (show m ≤ Bq + 3 by omega)
        clear HS hneg hm ho hoB hm1 hle hn0 ht ha hp HR hd0 hvB f1
        go_wp2
        go_roundw
        case rel => exact ⟨i + 1, m, _, rfl, by go_num, Lib.hid hlt, HB2, HR2⟩
        case measure => first | (simp [intOf]; done) | (simp [intOf]; omega)
      · obtain ⟨o, ho⟩ : ∃ o : Nat, o = a - b := ⟨_, rfl⟩
        have hoB : o < Bq := by omega
        have g1 : IntKind.i64.wrap ((a : Int) - (b : Int)) = (o : Int) := by
          rw [show (a : Int) - (b : Int) = (o : Int) by omega]
          exact IntWalk.i64_in _ (by unfold Bq at *; omega)
        have hnz : ¬ (o : Int) < 0 := by omega
        have h1 : IntKind.u32.wrap (o : Int) = (o : Int) := IntWalk.u32_in _ (by unfold Bq at *; omega)
        have h2 : (o : Int) % 4294967296 = (o : Int) := Int.emod_eq_of_lt (by omega) (by unfold Bq at *; omega)
        have HR2 := Lib.hid (HS.out o 0 hoB (by omega))
        have HB2 := Lib.hid (Nat.zero_le (Bq + 3))
        clear HS hneg ho hoB ha hp HR hd0 hvB f1
        go_wp2
        go_roundw
        case rel => exact ⟨i + 1, 0, _, rfl, by go_num, Lib.hid hlt, HB2, HR2⟩
        case measure => first | (simp [intOf]; done) | (simp [intOf]; omega)
end Go.Proofs.YthodlgjfmddemaaGreatDoor.Rk
