/- TopMerged: the pairs of lines that stay. -/
import Derived.Test.YtpnnojepbmpfiaaDoorTmPr
import Derived.IntWalk
import Derived.BigQuiet
import Derived.StillTailTactics
import Derived.Deep.RegionLaw
namespace Go.Proofs.YtpnnojepbmpfiaaDoor
open Go.RowKit

theorem infoRow : (Tryd.prog.info? 87).map (fun i => (i.zero, i.size, i.bytes)) = some (some (.slice none 0 0), 1, 24) := by kernel_rfl
theorem infoInt : (Tryd.prog.info? 3).map (fun i => (i.zero, i.size, i.bytes)) = some (some (.int .i64 0), 1, 8) := by kernel_rfl
theorem tab_start {w wr : World} {a b : List ByteArray} (h : Tab w wr a.length b.length (fun _ _ => 0)) : Tab w wr a.length b.length (tabF a b a.length 0) := by
  refine h.congr fun j q hj hq => ?_
  unfold tabF
  by_cases e : a.length < j ∨ (j = a.length ∧ 0 ≤ q)
  · rw [if_pos e, rest_end a b j q (.inl (by omega))]
  · rw [if_neg e]
theorem tab_row {w wr : World} {a b : List ByteArray} {i : Nat} (h : Tab w wr a.length b.length (tabF a b (i + 1) 0)) : Tab w wr a.length b.length (tabF a b i b.length) := by
  refine h.congr fun j q hj hq => ?_
  unfold tabF
  by_cases e : i + 1 < j ∨ (j = i + 1 ∧ 0 ≤ q)
  · rw [if_pos e, if_pos (by omega)]
  · rw [if_neg e]
    by_cases e2 : i < j ∨ (j = i ∧ b.length ≤ q)
    · rw [if_pos e2, rest_end a b j q (.inr (by omega))]
    · rw [if_neg e2]
theorem tab_all {w wr : World} {a b : List ByteArray} (h : Tab w wr a.length b.length (tabF a b 0 0)) : Tab w wr a.length b.length (rest a b) := by
  refine h.congr fun j q hj hq => ?_
  unfold tabF
  rw [if_pos (by omega)]
/-- one place more -/
theorem tab_max {w wr : World} {a b : List ByteArray} {i k : Nat} (h : Tab w wr a.length b.length (tabF a b i (k + 1))) (hi : i < a.length) (hk : k < b.length) (e : a[i] ≠ b[k]) :
    Tab w (wr.setCell ⟨w.heap.size + 1 + i, k, none⟩ (.int .i64 ((max (rest a b (i + 1) k) (rest a b i (k + 1)) : Nat) : Int))) a.length b.length (tabF a b i k) := by
  refine (h.set i k _).congr fun j q hj hq => ?_
  by_cases e1 : j = i ∧ q = k
  · obtain ⟨rfl, rfl⟩ := e1
    rw [if_pos ⟨rfl, rfl⟩]
    unfold tabF
    rw [if_pos (by omega), rest_step a b j q hi hk, if_neg e]
  · rw [if_neg e1]
    unfold tabF
    by_cases e2 : i < j ∨ (j = i ∧ k + 1 ≤ q)
    · rw [if_pos e2, if_pos (by omega)]
    · rw [if_neg e2, if_neg (by omega)]
theorem tab_eq {w wr : World} {a b : List ByteArray} {i k : Nat} {x : Nat} (h : Tab w wr a.length b.length (tabF a b i (k + 1))) (hi : i < a.length) (hk : k < b.length) (e : a[i] = b[k]) :
    Tab w ((wr.setCell ⟨w.heap.size + 1 + i, k, none⟩ (.int .i64 (x : Int))).setCell ⟨w.heap.size + 1 + i, k, none⟩ (.int .i64 ((rest a b (i + 1) (k + 1) + 1 : Nat) : Int))) a.length b.length (tabF a b i k) := by
  refine ((h.set i k x).set i k _).congr fun j q hj hq => ?_
  by_cases e1 : j = i ∧ q = k
  · obtain ⟨rfl, rfl⟩ := e1
    rw [if_pos ⟨rfl, rfl⟩]
    unfold tabF
    rw [if_pos (by omega), rest_step a b j q hi hk, if_pos e]
  · rw [if_neg e1, if_neg e1]
    unfold tabF
    by_cases e2 : i < j ∨ (j = i ∧ k + 1 ≤ q)
    · rw [if_pos e2, if_pos (by omega)]
    · rw [if_neg e2, if_neg (by omega)]
theorem tab_vals {w wr : World} {a b : List ByteArray} {i k : Nat} (h : Tab w wr a.length b.length (tabF a b i (k + 1))) (hi : i < a.length) (hk : k < b.length) :
    wr.cell? ⟨w.heap.size + 1 + (i + 1), k, none⟩ = some (.int .i64 (rest a b (i + 1) k : Int)) ∧ wr.cell? ⟨w.heap.size + 1 + i, k + 1, none⟩ = some (.int .i64 (rest a b i (k + 1) : Int)) ∧ wr.cell? ⟨w.heap.size + 1 + (i + 1), k + 1, none⟩ = some (.int .i64 (rest a b (i + 1) (k + 1) : Int)) ∧ wr.cell? ⟨w.heap.size + 1 + i, k, none⟩ = some (.int .i64 0) := by
  have h1 := h.at (i + 1) k (by omega) (by omega)
  have h2 := h.at i (k + 1) (by omega) (by omega)
  have h3 := h.at (i + 1) (k + 1) (by omega) (by omega)
  have h4 := h.at i k (by omega) (by omega)
  unfold tabF at h1 h2 h3 h4
  rw [if_pos (by omega)] at h1 h2 h3
  rw [if_neg (by omega)] at h4
  exact ⟨h1, h2, h3, h4⟩
theorem stL_nil (i : Nat) (b : List ByteArray) (k : Nat) : stL [] i b k = [] := rfl
theorem stL_none {a b c : List ByteArray} {x : ByteArray} {i k : Nat} (ha : a = x :: c) (h : rT a b = 0) : stL a i b k = [] := by
  subst ha
  unfold stL
  rw [if_pos h]
theorem stL_miss {a b c : List ByteArray} {x : ByteArray} {i k : Nat} (ha : a = x :: c) (h : rT a b ≠ 0) (hx : idxB b x = none) : stL a i b k = stL c (i + 1) b k := by
  subst ha
  conv => lhs; unfold stL
  rw [if_neg h, hx]
theorem stL_hit {a b c : List ByteArray} {x : ByteArray} {i k n : Nat} (ha : a = x :: c) (h : rT a b ≠ 0) (hx : idxB b x = some n) (he : rT c (b.drop (n + 1)) + 1 = rT a b) : stL a i b k = (i, k + n) :: stL c (i + 1) (b.drop (n + 1)) (k + n + 1) := by
  subst ha
  conv => lhs; unfold stL
  rw [if_neg h, hx]
  dsimp only
  rw [if_pos he]
theorem stL_pass {a b c : List ByteArray} {x : ByteArray} {i k n : Nat} (ha : a = x :: c) (h : rT a b ≠ 0) (hx : idxB b x = some n) (he : rT c (b.drop (n + 1)) + 1 ≠ rT a b) : stL a i b k = stL c (i + 1) b k := by
  subst ha
  conv => lhs; unfold stL
  rw [if_neg h, hx]
  dsimp only
  rw [if_neg he]
set_option maxRecDepth 100000 in
set_option maxHeartbeats 6400000 in
theorem stay_any (a b : List ByteArray) (va vb : Value) (w : World) (ha : SL w va a) (hb : SL w vb b) (hla : a.length ≤ 1000) (hlb : b.length ≤ 1000) :
    Calls Tryd.prog 23 #[va, vb] w fun e w' => ∃ v, e = .returned v ∧ KP w' v (stL a 0 b 0) ∧ (∀ k, v.ownBlock = some k → w.heap.size ≤ k) ∧ Below w.heap.size w w' := by
  obtain ⟨A, ca, rfl, _, fa⟩ := ha
  obtain ⟨B, cb, rfl, hcb0, fb⟩ := hb
  obtain ⟨n, hn⟩ : ∃ n, n = a.length := ⟨_, rfl⟩
  obtain ⟨m, hm⟩ : ∃ m, m = b.length := ⟨_, rfl⟩
  rw [← hn] at hla ⊢
  rw [← hm] at hlb ⊢
  have HA := Lib.hid fa
  have HB := Lib.hid fb
  have HN := Lib.hid hn
  have HM := Lib.hid hm
  have HCb := Lib.hid hcb0
  clear fa fb hn hm hcb0
  have hmk1 := run_make_row' (P := Tryd.prog) 86 87 (.slice none 0 0) 24 Tryd.underlying86 infoRow rfl .i64 .i64 (n + 1) (by omega) (by omega)
  have hmk2 := run_make_row' (P := Tryd.prog) 87 3 (.int .i64 0) 8 Tryd.underlying87 infoInt rfl .i64 .i64 (m + 1) (by omega) (by omega)
  rw [show ((n + 1 : Nat) : Int) = (n : Int) + 1 by omega] at hmk1
  rw [show ((m + 1 : Nat) : Int) = (m : Int) + 1 by omega] at hmk2
  go_enter Tryd.func23, Tryd.ntmps23
  go_wp2_with fail
  go_loopw [19] (fun s19 wr => ∃ c : Nat, s19 = .int .i64 (c : Int) ∧ Hid (c ≤ n + 1) ∧ Hid (Mk w wr n m c)) (fun s19 _ => n + 1 - (intOf s19).toNat)
  case atStart => exact ⟨0, rfl, Lib.hid (Nat.zero_le _), Lib.hid (Mk.start w n m)⟩
  case round =>
    obtain ⟨c, rfl, HC, HK⟩ := hrel
    by_cases hlt : c < n + 1
    · have hltz : (c : Int) < (n : Int) + 1 := by omega
      have hsz := HK.out.size
      have hst1 : ∀ o, (wr.alloc o).cell? ⟨w.heap.size, c, none⟩ = some (.slice none 0 0) := fun o => ((HK.out.top.alloc o).cell hlt).trans (by rw [if_neg (Nat.lt_irrefl _)])
      have hst2 : ∀ o, (wr.alloc o).frozen? ⟨w.heap.size, c, none⟩ = false := fun o => (HK.out.top.alloc o).frozen c
      have HS := Lib.hid HK.out.step
      have hcn : (c : Int) < ((n + 1 : Nat) : Int) := by omega
      go_wp2_with fail
      exact ⟨⟨c + 1, by go_num, Lib.hid hlt, HS⟩, by simp [intOf]; omega⟩
    · obtain rfl : c = n + 1 := by have := HC.out; omega
      have hnz : ¬ ((n + 1 : Nat) : Int) < (n : Int) + 1 := by omega
      have HT0 := Lib.hid (HM.out ▸ HN.out ▸ HK.out.tab)
      clear hmk1 hmk2 HK HC hlt
      go_wp2_with fail
      have HT1 := Lib.hid (tab_start HT0.out)
      clear HT0 hnz
      go_loopw [7] (fun s7 wx => ∃ i : Nat, s7 = .int .i64 ((i : Int) - 1) ∧ Hid (i ≤ n) ∧ Hid (Tab w wx a.length b.length (tabF a b i 0))) (fun s7 _ => (intOf s7 + 1).toNat)
      case atStart => exact ⟨n, rfl, Lib.hid (Nat.le_refl _), by rw [HN.out]; exact HT1⟩
      case round =>
        clear HT1
        obtain ⟨i, rfl, HI, HT⟩ := hrel
        cases i with
        | succ i =>
          have hi : i < n := HI.out
          rw [show (((i + 1 : Nat) : Int) - 1) = (i : Int) by omega]
          obtain ⟨ba, oa, hA, hba, hca⟩ := HA.out (by have := HN.out; omega)
          have hcell := hca i (by have := HN.out; omega)
          have HCa := Lib.hid (And.intro hba hcell)
          have HTr := Lib.hid (tab_row HT.out)
          clear hca hba hcell HT
          go_wp2_with fail
          go_loopw [8] (fun s8 wy => ∃ k : Nat, s8 = .int .i64 ((k : Int) - 1) ∧ Hid (k ≤ m) ∧ Hid (Tab w wy a.length b.length (tabF a b i k))) (fun s8 _ => (intOf s8 + 1).toNat)
          case atStart => exact ⟨m, rfl, Lib.hid (Nat.le_refl _), by rw [HM.out]; exact HTr⟩
          case round =>
            clear HTr
            obtain ⟨k, rfl, HK, HT⟩ := hrel
            cases k with
            | succ k =>
              have hk : k < m := HK.out
              rw [show (((k + 1 : Nat) : Int) - 1) = (k : Int) by omega]
              obtain ⟨bb, ob, hB, hbb, hcb⟩ := HB.out (by have := HM.out; omega)
              obtain ⟨v1, v2, v3, v4⟩ := tab_vals HT.out (by have := HN.out; omega) (by have := HM.out; omega)
              have r0 := HT.out.cell i (by have := HN.out; omega)
              have r1 := HT.out.cell (i + 1) (by have := HN.out; omega)
              have hfz := (HT.out.rows i (by have := HN.out; omega)).frozen k
              have ha2 := (HT.out.below.cell (p := ⟨ba, oa + i, none⟩) HCa.out.1).trans HCa.out.2
              have hb2 := (HT.out.below.cell (p := ⟨bb, ob + k, none⟩) hbb).trans (hcb k (by have := HM.out; omega))
              have hbb1 : w.heap.size + 1 + (i + 1) ≠ w.heap.size + 1 + i := by omega
              rw [← HM.out] at r0 r1
              obtain ⟨p, hp⟩ : ∃ p, p = i + 1 := ⟨_, rfl⟩
              obtain ⟨q, hq⟩ : ∃ q, q = k + 1 := ⟨_, rfl⟩
              have e1 : IntKind.i64.wrap ((i : Int) + 1) = (p : Int) := by rw [show (i : Int) + 1 = (p : Int) by omega]; exact IntWalk.i64_in _ (by omega)
              have e2 : IntKind.i64.wrap ((k : Int) + 1) = (q : Int) := by rw [show (k : Int) + 1 = (q : Int) by omega]; exact IntWalk.i64_in _ (by omega)
              have i1 : (i : Int) < (n : Int) + 1 := by omega
              have i2 : (p : Int) < (n : Int) + 1 := by omega
              have i3 : (k : Int) < (m : Int) + 1 := by omega
              have i4 : (q : Int) < (m : Int) + 1 := by omega
              have i5 : (i : Int) < (n : Int) := by omega
              have i6 : (k : Int) < (m : Int) := by omega
              rw [← hp] at v1 v3 r1 hbb1
              rw [← hq] at v2 v3
              have hia : i < a.length := by have := HN.out; omega
              have hkb : k < b.length := by have := HM.out; omega
              have HE1 := Lib.hid (fun (e : a[i] ≠ b[k]) => tab_max HT.out hia hkb e)
              have HE2 := Lib.hid (fun (e : a[i] = b[k]) => tab_eq (x := max (rest a b (i + 1) k) (rest a b i (k + 1))) HT.out hia hkb e)
              have HTs := Lib.hid (HT.out.set i k (max (rest a b (i + 1) k) (rest a b i (k + 1))))
              have hR1 : rest a b (i + 1) (k + 1) ≤ 1000 := by have := rest_le a b (i + 1) (k + 1); have := HN.out; omega
              rw [← hp, ← hq] at HE1 HE2 HTs hR1
              have emx : ∀ x y : Nat, ((max x y : Nat) : Int) = max (x : Int) (y : Int) := fun x y => by omega
              rw [emx] at HE1 HE2 HTs
              generalize a[i] = xa at *
              generalize b[k] = xb at *
              clear hp hq hcb hia hkb HT emx
              go_upto_region 1 with fail
              go_still_tail 23, (by kernel_rfl)
              change wpList _ _ _ _ _ wr.drew
              go_upto_region 1 with fail
              have hT3 : Tab w (wr.setCell ⟨w.heap.size + 1 + i, k, none⟩ (.int .i64 (max (rest a b p k : Int) (rest a b i q : Int)))).drew a.length b.length _ := HTs.out.drew
              have hE1 : xa ≠ xb → Tab w (wr.setCell ⟨w.heap.size + 1 + i, k, none⟩ (.int .i64 (max (rest a b p k : Int) (rest a b i q : Int)))).drew a.length b.length (tabF a b i k) := fun e => (HE1.out e).drew
              have hE2 : xa = xb → Tab w ((wr.setCell ⟨w.heap.size + 1 + i, k, none⟩ (.int .i64 (max (rest a b p k : Int) (rest a b i q : Int)))).drew.setCell ⟨w.heap.size + 1 + i, k, none⟩ (.int .i64 ((rest a b p q + 1 : Nat) : Int))) a.length b.length (tabF a b i k) := fun e => (HE2.out e).drew
              have w1 : ((wr.setCell ⟨w.heap.size + 1 + i, k, none⟩ (.int .i64 (max (rest a b p k : Int) (rest a b i q : Int)))).drew).cell? ⟨w.heap.size + 1 + p, q, none⟩ = _ := (World.cell?_setCell_other wr ⟨w.heap.size + 1 + i, k, none⟩ ⟨w.heap.size + 1 + p, q, none⟩ (.int .i64 (max (rest a b p k : Int) (rest a b i q : Int))) (by intro e; injection e; omega)).trans v3
              have w2 : ((wr.setCell ⟨w.heap.size + 1 + i, k, none⟩ (.int .i64 (max (rest a b p k : Int) (rest a b i q : Int)))).drew).cell? ⟨w.heap.size, i, none⟩ = _ := (World.cell?_setCell_other wr ⟨w.heap.size + 1 + i, k, none⟩ ⟨w.heap.size, i, none⟩ (.int .i64 (max (rest a b p k : Int) (rest a b i q : Int))) (by intro e; injection e; omega)).trans r0
              have w3 : ((wr.setCell ⟨w.heap.size + 1 + i, k, none⟩ (.int .i64 (max (rest a b p k : Int) (rest a b i q : Int)))).drew).cell? ⟨w.heap.size, p, none⟩ = _ := (World.cell?_setCell_other wr ⟨w.heap.size + 1 + i, k, none⟩ ⟨w.heap.size, p, none⟩ (.int .i64 (max (rest a b p k : Int) (rest a b i q : Int))) (by intro e; injection e; omega)).trans r1
              have w4 : ((wr.setCell ⟨w.heap.size + 1 + i, k, none⟩ (.int .i64 (max (rest a b p k : Int) (rest a b i q : Int)))).drew).cell? ⟨ba, oa + i, none⟩ = _ := (World.cell?_setCell_other wr ⟨w.heap.size + 1 + i, k, none⟩ ⟨ba, oa + i, none⟩ (.int .i64 (max (rest a b p k : Int) (rest a b i q : Int))) (by intro e; injection e; have := HCa.out.1; omega)).trans ha2
              have w5 : ((wr.setCell ⟨w.heap.size + 1 + i, k, none⟩ (.int .i64 (max (rest a b p k : Int) (rest a b i q : Int)))).drew).cell? ⟨bb, ob + k, none⟩ = _ := (World.cell?_setCell_other wr ⟨w.heap.size + 1 + i, k, none⟩ ⟨bb, ob + k, none⟩ (.int .i64 (max (rest a b p k : Int) (rest a b i q : Int))) (by intro e; injection e; omega)).trans hb2
              have w6 : ((wr.setCell ⟨w.heap.size + 1 + i, k, none⟩ (.int .i64 (max (rest a b p k : Int) (rest a b i q : Int)))).drew).cell? ⟨w.heap.size + 1 + i, k, none⟩ = _ := (World.cell?_setCell_same' wr ⟨w.heap.size + 1 + i, k, none⟩ (.int .i64 (max (rest a b p k : Int) (rest a b i q : Int))) (by rw [v4]; rfl))
              have hfz3 := (hT3.rows i (by have := HN.out; omega)).frozen k
              clear hT3 HTs HE1 HE2 r0 r1 v1 v2 v3 v4 ha2 hb2 hfz
              generalize (max (rest a b p k : Int) (rest a b i q : Int)) = mx at *
              generalize (wr.setCell ⟨w.heap.size + 1 + i, k, none⟩ (.int .i64 mx)).drew = w7 at *
              have e3 : IntKind.i64.wrap ((rest a b p q : Int) + 1) = ((rest a b p q + 1 : Nat) : Int) := by rw [show (rest a b p q : Int) + 1 = ((rest a b p q + 1 : Nat) : Int) by omega]; exact IntWalk.i64_in _ (by omega)
              have HE1 := Lib.hid hE1
              have HE2 := Lib.hid hE2
              clear hE1 hE2
              generalize rest a b p q + 1 = rv at *
              by_cases he : xa = xb
              · have heb : (xa.toList == xb.toList) = true := by rw [he]; exact beq_self_eq_true _
                have HE3 := Lib.hid (HE2.out he)
                clear he HE1 HE2
                go_wp2_with fail
                go_quiet (fail)
                go_upto_region 1 with fail
                change w7.cell? _ = _ at w1 w2 w3 w6
                have c1 : (w7.drewN nq).cell? ⟨w.heap.size + 1 + p, q, none⟩ = _ := w1
                have c2 : (w7.drewN nq).cell? ⟨w.heap.size, i, none⟩ = _ := w2
                have c3 : (w7.drewN nq).cell? ⟨w.heap.size, p, none⟩ = _ := w3
                have c6 : (w7.drewN nq).cell? ⟨w.heap.size + 1 + i, k, none⟩ = _ := w6
                have c7 : (w7.drewN nq).frozen? ⟨w.heap.size + 1 + i, k, none⟩ = false := hfz3
                have hTz : Tab w ((w7.drewN nq).setCell ⟨w.heap.size + 1 + i, k, none⟩ (.int .i64 (rv : Int))) a.length b.length (tabF a b i k) := HE3.out.like rfl rfl rfl rfl
                clear HE3 w1 w2 w3 w4 w5 w6 hfz3
                generalize w7.drewN nq = w8 at *
                have HTz := Lib.hid hTz.drew
                clear hTz
                go_still_tail 16, (by kernel_rfl)
                change wpList _ _ _ _ _ w8.drew
                go_wp2_with fail
                rw [← hA, ← hB]
                clear hA hB
                go_wp2_with fail
                exact ⟨⟨k, rfl, Lib.hid (Nat.le_of_lt hk), HTz⟩, by first | (simp [intOf]; done) | (simp [intOf]; omega)⟩
              · have heb : (xa.toList == xb.toList) = false := (Lib.bytes_beq_false_iff _ _).2 he
                have HE3 := Lib.hid (HE1.out he)
                clear he HE1 HE2 hfz3 w6
                go_wp2_with fail
                go_quiet (fail)
                go_wp2_with fail
                rw [← hA, ← hB]
                clear hA hB
                go_wp2_with fail
                exact ⟨⟨k, rfl, Lib.hid (Nat.le_of_lt hk), Lib.hid (HE3.out.like rfl rfl rfl rfl)⟩, by first | (simp [intOf]; done) | (simp [intOf]; omega)⟩
            | zero =>
              have HTz := Lib.hid HT.out
              rw [show (((0 : Nat) : Int) - 1) = -1 by omega]
              have hneg : ¬ (-1 : Int) ≥ 0 := by omega
              clear HT hneg
              go_wp2_with fail
              exact ⟨⟨i, rfl, Lib.hid (Nat.le_of_lt hi), HTz⟩, by first | (simp [intOf]; done) | (simp [intOf]; omega)⟩
        | zero =>
          have HTz := Lib.hid (tab_all HT.out)
          rw [show (((0 : Nat) : Int) - 1) = -1 by omega]
          clear HT
          go_upto_region 1 with fail
          rename World => w1
          obtain ⟨i0, hi, hz0, hz1, hz2⟩ := info_parts pairInfo
          go_loopw [10, 11, 9] (fun s10 s11 s9 wy => ∃ (i k : Nat) (O : List (Nat × Nat)) (vo : Value), s10 = .int .i64 (i : Int) ∧ s11 = .int .i64 (k : Int) ∧ s9 = vo ∧ Hid (i ≤ n) ∧ Hid (k ≤ m) ∧ Hid (OutD w1 vo O wy) ∧ Hid (O ++ stL (a.drop i) i (b.drop k) k = stL a 0 b 0) ∧ Hid (O.length ≤ i)) (fun s10 _ _ _ => n - (intOf s10).toNat)
          case atStart => exact ⟨0, 0, [], .slice none 0 0, rfl, rfl, rfl, Lib.hid (Nat.zero_le _), Lib.hid (Nat.zero_le _), Lib.hid (OutD.start (Below.refl _ _)), Lib.hid rfl, Lib.hid (Nat.le_refl _)⟩
          case round =>
            obtain ⟨i, k, O, vo, rfl, rfl, rfl, HI, HK, HO, HE, HL⟩ := hrel
            by_cases hlt : i < n
            · have hltz : (i : Int) < (n : Int) := by omega
              obtain ⟨ba, oa, hA, hba, hca⟩ := HA.out (by have := HN.out; omega)
              have HT := Lib.hid (HTz.out.keep HO.out.below)
              have hia : i < a.length := by have := HN.out; omega
              have ha2 := (HT.out.below.cell (p := ⟨ba, oa + i, none⟩) hba).trans (hca i hia)
              have r0 := HT.out.cell i (by have := HN.out; omega)
              have v0 := HT.out.at i k (by have := HN.out; omega) (by have := HM.out; have := HK.out; omega)
              have i1 : (i : Int) < (n : Int) + 1 := by omega
              have i3 : (k : Int) < (m : Int) + 1 := by have := HK.out; omega
              rw [← HM.out] at r0
              by_cases h0 : rest a b i k = 0
              · have HF := Lib.hid (show O = stL a 0 b 0 from by
                  have := HE.out
                  rw [stL_none (List.drop_eq_getElem_cons hia) h0, List.append_nil] at this
                  exact this)
                rw [h0] at v0
                clear h0 HE hca
                go_wp2_with fail
                go_ret
                exact ⟨_, rfl, HF.out ▸ HO.out.kp, fun k hk => Nat.le_trans HTz.out.below.size (HO.out.own.lt k hk).1, HTz.out.below.trans (HO.out.below.mono HTz.out.below.size)⟩
              · have hgt : (rest a b i k : Int) > 0 := by omega
                have hkm : k < m := by
                  by_cases e : k < m
                  · exact e
                  · exact absurd (rest_end a b i k (.inr (by have := HM.out; omega))) h0
                obtain ⟨bb, ob, hB, hbb, hcb⟩ := HB.out (by have := HM.out; omega)
                have HC := Lib.hid (show ∀ j, j < (b.drop k).length → wr.cell? ⟨bb, ob + k + j, none⟩ = some (.string ((b.drop k).getD j ByteArray.empty)) from fun j hj => by
                  rw [List.length_drop] at hj
                  have h1 := (HT.out.below.cell (p := ⟨bb, ob + (k + j), none⟩) hbb).trans (hcb (k + j) (by omega))
                  rw [Nat.add_assoc, h1, List.getD_eq_getElem?_getD, List.getElem?_drop, List.getElem?_eq_getElem (by omega)]
                  rfl)
                have hcbk : ¬ cb = k := by have := HCb.out; have := HM.out; omega
                have HIc := Lib.hid (fun W h => Tryd.slices_Index_string bb (ob + k) (m - k) (cb - k) (b.drop k) a[i] W (by rw [List.length_drop]; have := HM.out; omega) (by omega) h)
                have HIt := Lib.hid (show (b.drop k).take (m - k) = b.drop k from List.take_of_length_le (by rw [List.length_drop]; have := HM.out; omega))
                have HS0 := Lib.hid (List.drop_eq_getElem_cons hia)
                have HR0 := Lib.hid (show rT (a.drop i) (b.drop k) ≠ 0 from h0)
                clear hca hcb h0
                generalize a[i] = xa at *
                cases ho : idxB (b.drop k) xa with
                | none =>
                  have HIx := Lib.hid (show Lib.idxOfS ((b.drop k).take (m - k)) xa = -1 by rw [HIt.out, idx_of, ho])
                  have HN2 := Lib.hid (HE.out.symm.trans (congrArg (O ++ ·) (stL_miss HS0.out HR0.out ho)))
                  clear ho HE
                  go_upto_region 1 with fail
                  go_quiet ((go_at_call 37; exact (HIc.out (wr.drewN _) HC.out).mono fun e w' h => ⟨h.1.trans (congrArg (fun z => Ending.returned (Value.int .i64 z)) HIx.out), _, h.2⟩))
                  go_wp2_with fail
                  go_quiet (fail)
                  go_wp2_with fail
                  exact ⟨⟨i + 1, k, O, _, by go_num, rfl, rfl, Lib.hid hlt, HK, Lib.hid (HO.out.keep (below_drewN (Below.refl _ _) _)), Lib.hid HN2.out.symm, Lib.hid (Nat.le_succ_of_le HL.out)⟩, by simp [intOf]; omega⟩
                | some nn =>
                  have HIx := Lib.hid (show Lib.idxOfS ((b.drop k).take (m - k)) xa = (nn : Int) by rw [HIt.out, idx_of, ho])
                  have hnn := idxB_lt ho
                  rw [List.length_drop, ← HM.out] at hnn
                  go_upto_region 1 with fail
                  go_quiet ((go_at_call 37; exact (HIc.out (wr.drewN _) HC.out).mono fun e w' h => ⟨h.1.trans (congrArg (fun z => Ending.returned (Value.int .i64 z)) HIx.out), _, h.2⟩))
                  obtain ⟨p, hp⟩ : ∃ p, p = i + 1 := ⟨_, rfl⟩
                  obtain ⟨r, hr⟩ : ∃ r, r = k + nn := ⟨_, rfl⟩
                  obtain ⟨q, hq⟩ : ∃ q, q = r + 1 := ⟨_, rfl⟩
                  have e1 : IntKind.i64.wrap ((i : Int) + 1) = (p : Int) := by rw [show (i : Int) + 1 = (p : Int) by omega]; exact IntWalk.i64_in _ (by omega)
                  have e2 : IntKind.i64.wrap ((k : Int) + (nn : Int)) = (r : Int) := by rw [show (k : Int) + (nn : Int) = (r : Int) by omega]; exact IntWalk.i64_in _ (by omega)
                  have e3 : IntKind.i64.wrap ((r : Int) + 1) = (q : Int) := by rw [show (r : Int) + 1 = (q : Int) by omega]; exact IntWalk.i64_in _ (by omega)
                  have i2 : (p : Int) < (n : Int) + 1 := by omega
                  have i4 : (q : Int) < (m : Int) + 1 := by omega
                  have inn : (nn : Int) ≥ 0 := by omega
                  have r1 := HT.out.cell p (by have := HN.out; omega)
                  have v1 := HT.out.at p q (by have := HN.out; omega) (by have := HM.out; omega)
                  rw [← HM.out] at r1
                  have hR1 : rest a b p q ≤ 1000 := by have := rest_le a b p q; have := HN.out; omega
                  have hdd : (b.drop k).drop (nn + 1) = b.drop q := by rw [List.drop_drop]; congr 1; omega
                  have HYes := Lib.hid (fun he : rest a b p q + 1 = rest a b i k => show (O ++ [(i, r)]) ++ stL (a.drop p) p (b.drop q) q = stL a 0 b 0 from by
                    have h1 := stL_hit (i := i) (k := k) HS0.out HR0.out ho (by rw [hdd, ← hp]; exact he)
                    rw [hdd, ← hp, ← hr, ← hq] at h1
                    rw [← HE.out, h1, List.append_assoc]
                    rfl)
                  have HNo := Lib.hid (fun he : rest a b p q + 1 ≠ rest a b i k => show O ++ stL (a.drop p) p (b.drop k) k = stL a 0 b 0 from by
                    have h1 := stL_pass (i := i) (k := k) HS0.out HR0.out ho (by rw [hdd, ← hp]; exact he)
                    rw [← hp] at h1
                    rw [← HE.out, h1])
                  have c0 : (wr.drewN nq).cell? ⟨w.heap.size, i, none⟩ = _ := r0
                  have c1 : (wr.drewN nq).cell? ⟨w.heap.size, p, none⟩ = _ := r1
                  have c2 : (wr.drewN nq).cell? ⟨w.heap.size + 1 + i, k, none⟩ = _ := v0
                  have c3 : (wr.drewN nq).cell? ⟨w.heap.size + 1 + p, q, none⟩ = _ := v1
                  have HO2 := Lib.hid (HO.out.keep (below_drewN (Below.refl _ wr) nq))
                  clear r0 r1 v0 v1 ho HE HO hdd ha2
                  generalize wr.drewN nq = w5 at *
                  have HPQ := Lib.hid (And.intro hp (And.intro hr hq))
                  clear hp hr hq
                  obtain ⟨x1, hx1⟩ : ∃ x, x = rest a b p q + 1 := ⟨_, rfl⟩
                  have e4 : IntKind.i64.wrap ((rest a b p q : Int) + 1) = (x1 : Int) := by rw [show (rest a b p q : Int) + 1 = (x1 : Int) by omega]; exact IntWalk.i64_in _ (by omega)
                  rw [← hx1] at HYes HNo
                  clear hx1 hR1
                  generalize rest a b p q = x0 at *
                  generalize rest a b i k = x2 at *
                  by_cases he : x1 = x2
                  · have HY := Lib.hid (HYes.out he)
                    have heb : ((x1 : Int) == (x2 : Int)) = true := by rw [he]; exact beq_self_eq_true _
                    have hez : (x1 : Int) = (x2 : Int) := by rw [he]
                    clear he HYes HNo
                    go_wp2_with fail
                    go_quiet (fail)
                    have HO3 := Lib.hid (HO2.out.keep (below_drewN (Below.refl _ _) nq))
                    have HL2 := Lib.hid (show O.length + 1 ≤ maxLen ∧ (O.length + 1) * 16 ≤ 140737488355328 by have := HL.out; unfold maxLen; omega)
                    clear HO2
                    generalize w5.drewN nq = w6 at *
                    go_wp2_with (at_builtin; refine wpList_append_lies _ rfl _ _ 70 rfl w1.heap.size 66 i0 _ 2 16 Tryd.underlying70 hi hz0 hz1 hz2 rfl (by decide) _ O.length _ rfl (HO3.out.keep ((Below.refl _ _).alloc (Nat.le_refl _) _)).own _ 1 1 [.int .i64 (i : Int), .int .i64 (r : Int)] rfl rfl (World.news_of_block (heap_alloc_new _ _)) (by intro u hu; simp at hu; rcases hu with rfl | rfl <;> rfl) (by decide) HL2.out.1 HL2.out.2 (Nat.le_trans HO3.out.below.size (by simp)) _ rfl ?_)
                    intro g1 cap w9 hown9 hg9 hat9 hlt9
                    have HO9 := Lib.hid ((HO3.out.keep ((Below.refl _ _).alloc (Nat.le_refl _) _)).append (p := (i, r)) hown9 hg9)
                    clear hown9 hg9 hat9 hlt9 c0 c1 c2 c3
                    go_wp2_with fail
                    rw [← hA, ← hB]
                    clear hA hB
                    go_wp2_with fail
                    exact ⟨⟨p, q, O ++ [(i, r)], _, rfl, by have := HPQ.out; first | rfl | (congr 1; omega), rfl, Lib.hid (by have := HPQ.out; omega), Lib.hid (by have := HPQ.out; omega), HO9, HY, Lib.hid (by have := HPQ.out; have := HL.out; simp; omega)⟩, by have := HPQ.out; simp [intOf]; omega⟩
                  · have HY := Lib.hid (HNo.out he)
                    have heb : ((x1 : Int) == (x2 : Int)) = false := beq_eq_false_iff_ne.2 (by omega)
                    have hez : ¬ (x1 : Int) = (x2 : Int) := by omega
                    clear he HYes HNo
                    go_wp2_with fail
                    go_quiet (fail)
                    go_wp2_with fail
                    exact ⟨⟨p, k, O, _, rfl, rfl, rfl, Lib.hid (by have := HPQ.out; omega), HK, Lib.hid (HO2.out.keep (below_drewN (Below.refl _ _) _)), HY, Lib.hid (by have := HPQ.out; have := HL.out; omega)⟩, by have := HPQ.out; simp [intOf]; omega⟩
            · obtain rfl : i = n := by have := HI.out; omega
              have hnz : ¬ (i : Int) < (i : Int) := by omega
              have HF := Lib.hid (show O = stL a 0 b 0 from by
                have := HE.out
                rw [List.drop_of_length_le (by have := HN.out; omega), stL_nil, List.append_nil] at this
                exact this)
              go_wp2_with fail
              go_ret
              exact ⟨_, rfl, HF.out ▸ HO.out.kp, fun k hk => Nat.le_trans HTz.out.below.size (HO.out.own.lt k hk).1, HTz.out.below.trans (HO.out.below.mono HTz.out.below.size)⟩
end Go.Proofs.YtpnnojepbmpfiaaDoor
