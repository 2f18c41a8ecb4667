/- TopMerged: Merge. (Printed by tools/gtmn.py.) -/
import Derived.Test.YtpnnojepbmpfiaaDoorTmM
namespace Go.Proofs.YtpnnojepbmpfiaaDoor
open Go.RowKit

theorem own_reg {w w' : World} {B n : Nat} {v : Value} {xs : List Value} (h : w.ownsRow B 51 2 v n xs) (hk : RegKept w w') : w'.ownsRow B 51 2 v n xs := by
  refine ⟨h.1, ?_⟩
  rcases h.2 with h0 | ⟨g, cap, cur, hv, hb, hg, h3⟩
  · exact .inl h0
  · exact .inr ⟨g, cap, cur, hv, hb, hk g cur hg, h3⟩
theorem reg_cells {w : World} {B n cap : Nat} {A : Option Addr} {L : List (Nat × Nat)} (h : w.ownsRow B 51 2 (.slice A n cap) n (prC L)) (h0 : 0 < n) : ∃ b, A = some ⟨b, 0, none⟩ ∧ b < w.heap.size ∧ ∀ j (h : j < L.length), w.cell? ⟨b, j * 2, none⟩ = some (.int .i64 (L[j].1 : Int)) ∧ w.cell? ⟨b, j * 2 + 1, none⟩ = some (.int .i64 (L[j].2 : Int)) := by
  have hk := KP.of_own h
  obtain ⟨A', c', e, _, _, hx⟩ := hk
  injection e with e1 e2 e3
  subst e1
  rcases h.2 with ⟨hv, hn⟩ | ⟨g, cap', cur, hv, _, hg, _⟩
  · omega
  · injection hv with e4 _ _
    subst e4
    obtain ⟨b, off, e5, hb, hc⟩ := hx (by omega)
    injection e5 with e5
    injection e5 with e6 e7 _
    subst e6 e7
    exact ⟨g, rfl, hb, fun j hj => by have := hc j hj; rw [Nat.zero_add] at this; exact this⟩
theorem stepM_cases (base : List ByteArray) (x y : List HK) (c : Nat) (R : List PC) (r : Nat × Nat) :
    ((sideH r y = [] ∨ sideT base r x = sideT base r y) → stepM base x y (c, R) r = (r.2, surR (surR R ((base.drop c).take (r.1 - c))) (sideT base r x))) ∧
    (¬ (sideH r y = [] ∨ sideT base r x = sideT base r y) → sideH r x = [] → stepM base x y (c, R) r = (r.2, surR (surR R ((base.drop c).take (r.1 - c))) (sideT base r y))) ∧
    (¬ (sideH r y = [] ∨ sideT base r x = sideT base r y) → ¬ sideH r x = [] → stepM base x y (c, R) r = (r.2, ⟨true, [], (base.drop r.1).take (r.2 - r.1), sideT base r x, sideT base r y⟩ :: surR R ((base.drop c).take (r.1 - c)))) := by
  refine ⟨fun h => ?_, fun h k => ?_, fun h k => ?_⟩
  · unfold stepM; rw [if_pos h]
  · unfold stepM; rw [if_neg h, if_pos k]
  · unfold stepM; rw [if_neg h, if_neg k]
/-- what Merge gives -/
def MergeP (base a b : List ByteArray) (w : World) (e : Ending) (w' : World) : Prop :=
  ∃ (v : Value) (n : Int), e = .returned (.tuple #[v, .int .i64 n]) ∧ (n = 0 ↔ goodLs base ∧ goodLs a ∧ goodLs b) ∧ (n = 0 → PcL w' v (mergeL base a b) ∧ tot (mergeL base a b) ≤ 20000000 ∧ (mergeL base a b).length ≤ 10000) ∧ Below w.heap.size w w'
set_option maxRecDepth 100000 in
set_option maxHeartbeats 6400000 in
theorem merge_any (base a b : List ByteArray) (v0 va vb : Value) (w : World) (h0 : SL w v0 base) (ha : SL w va a) (hb : SL w vb b) (hbig : base.length ≤ 9223372036854775807 ∧ a.length ≤ 9223372036854775807 ∧ b.length ≤ 9223372036854775807) :
    Calls Tryd.prog 5 #[v0, va, vb] w (MergeP base a b w) := by
  obtain ⟨Q, hQ⟩ : ∃ Q, MergeP base a b w = Q := ⟨_, rfl⟩
  rw [hQ]
  have HQ := Lib.hid hQ
  have hal := (Below.refl w.heap.size w).alloc (Nat.le_refl _) (.cells #[v0, va, vb] 22)
  have hbx := Blk.new w 22 #[v0, va, vb] rfl
  have hS0 := h0.keep hal
  have hSa := ha.keep hal
  have hSb := hb.keep hal
  obtain ⟨A, n, ca, rfl⟩ : ∃ A n c, v0 = .slice A n c := by obtain ⟨A, c, rfl, _⟩ := h0; exact ⟨_, _, _, rfl⟩
  obtain ⟨A1, n1, c1, rfl⟩ : ∃ A n c, va = .slice A n c := by obtain ⟨A, c, rfl, _⟩ := ha; exact ⟨_, _, _, rfl⟩
  obtain ⟨A2, n2, c2, rfl⟩ : ∃ A n c, vb = .slice A n c := by obtain ⟨A, c, rfl, _⟩ := hb; exact ⟨_, _, _, rfl⟩
  have hnl := h0.len
  have hnc : n ≤ ca := by obtain ⟨_, _, e, hc, _⟩ := h0; injection e with e1 e2 e3; omega
  have HSs := Lib.hid (And.intro hS0 (And.intro hSa hSb))
  have HN := Lib.hid hnl
  have HAl := Lib.hid hal
  have HC := Lib.hid (listed_any [base, a, b] w.heap.size 3 3 _ rfl (by decide) (fun i hi => by
    match i, hi with
    | 0, _ => exact ⟨A, n, ca, (hbx.cell.1 0).trans rfl, hS0⟩
    | 1, _ => exact ⟨A1, n1, c1, (hbx.cell.1 1).trans rfl, hSa⟩
    | 2, _ => exact ⟨A2, n2, c2, (hbx.cell.1 2).trans rfl, hSb⟩) (by
    intro l hl
    simp only [List.mem_cons, List.not_mem_nil, or_false] at hl
    rcases hl with rfl | rfl | rfl
    · exact hbig.1
    · exact hbig.2.1
    · exact hbig.2.2))
  clear hQ hal hbx hS0 hSa hSb h0 ha hb hbig hnl
  go_enter Tryd.func5, Tryd.ntmps5
  go_wp2_with fail
  refine HC.out.mono ?_
  rintro e w1 ⟨ne, rfl, hne, rfl⟩
  have HNe := Lib.hid (show ne = 0 ↔ goodLs base ∧ goodLs a ∧ goodLs b by
    rw [hne]
    constructor
    · intro h; exact ⟨h base (by simp), h a (by simp), h b (by simp)⟩
    · rintro ⟨g1, g2, g3⟩ l hl
      simp only [List.mem_cons, List.not_mem_nil, or_false] at hl
      rcases hl with rfl | rfl | rfl
      · exact g1
      · exact g2
      · exact g3)
  clear hne HC
  generalize w.alloc (.cells #[.slice A n ca, .slice A1 n1 c1, .slice A2 n2 c2] 22) = w1 at *
  by_cases hz : ne = 0
  case neg =>
    have hzb : (ne == 0) = false := beq_eq_false_iff_ne.2 hz
    have HF := Lib.hid (show MergeP base a b w (.returned (.tuple #[.slice none 0 0, .int .i64 ne])) w1 from ⟨_, _, rfl, HNe.out, fun e => absurd e hz, HAl.out⟩)
    go_wp2_with fail
    rw [← HQ.out]
    exact HF.out
  obtain ⟨g0, ga, gb⟩ := HNe.out.1 hz
  have hb1 := g0.1
  have ha1 := ga.1
  have hb2 := gb.1
  subst hz
  have Hlen := Lib.hid (And.intro hb1 (And.intro ha1 hb2))
  have hn1000 : n ≤ 1000 := by have := HN.out; omega
  clear g0 ga gb hb1 ha1 hb2
  go_wp2_with fail
  refine (diff_any base a _ _ w1 HSs.out.1 HSs.out.2.1 Hlen.out.1 Hlen.out.2.1).mono ?_
  rintro e w2 ⟨vx, rfl, hxl, hbx⟩
  have HX := Lib.hid hxl
  have HB2 := Lib.hid hbx
  clear hxl hbx
  go_wp2_with fail
  refine (diff_any base b _ _ w2 (HSs.out.1.keep HB2.out) (HSs.out.2.2.keep HB2.out) Hlen.out.1 Hlen.out.2.2).mono ?_
  rintro e w3 ⟨vy, rfl, hyl, hby⟩
  have HX3 := Lib.hid (HX.out.keep hby)
  have HY3 := Lib.hid hyl
  have HB3 := Lib.hid (HB2.out.trans (hby.mono HB2.out.size))
  have HS3 := Lib.hid (HSs.out.1.keep HB3.out)
  have HDx := Lib.hid (diff_right base a)
  have HDy := Lib.hid (diff_right base b)
  have HBw := Lib.hid (HAl.out.trans (HB3.out.mono HAl.out.size))
  obtain ⟨x, hx⟩ : ∃ x, x = diffL base a := ⟨_, rfl⟩
  obtain ⟨y, hy⟩ : ∃ y, y = diffL base b := ⟨_, rfl⟩
  have HMr := Lib.hid (show mergeL base a b = (mergeR base x y).reverse by rw [hx, hy]; rfl)
  rw [← hx] at HX3 HDx
  rw [← hy] at HY3 HDy
  have HNs := Lib.hid (show newsum x ≤ 1000 ∧ newsum y ≤ 1000 from ⟨by have h1 := newsum_rep base x 0; rw [HDx.out.2] at h1; have := Hlen.out; omega, by have h1 := newsum_rep base y 0; rw [HDy.out.2] at h1; have := Hlen.out; omega⟩)
  have HXl := Lib.hid (show x.length ≤ 1001 ∧ y.length ≤ 1001 from ⟨by have h1 := apart_len HDx.out.1 (Nat.zero_le _); have := Hlen.out; omega, by have h1 := apart_len HDy.out.1 (Nat.zero_le _); have := Hlen.out; omega⟩)
  have HRok := Lib.hid (regsOf_ok HDx.out.1 HDy.out.1)
  have HRl := Lib.hid (regsOf_len x y)
  have HFin := Lib.hid (show ∀ h ∈ x ++ y, h.fin ≤ 1000 from fun h hh => by
    have := Hlen.out
    rcases List.mem_append.1 hh with hh | hh
    · have := (apart_after HDx.out.1 h hh).2; omega
    · have := (apart_after HDy.out.1 h hh).2; omega)
  clear hyl hby hx hy HX HB2 HB3 HSs HAl
  have HG0 := Lib.hid (Mg.start w3)
  have HRg := Lib.hid (fun W hW => regions_any x y vx vy W (HX3.out.keep hW) (HY3.out.keep hW) HXl.out.1 HXl.out.2 HFin.out)
  obtain ⟨RL, hRL⟩ : ∃ RL, RL = regsOf x y := ⟨_, rfl⟩
  rw [← hRL] at HRg HRok HRl
  have HRL := Lib.hid hRL
  clear hRL
  go_upto_region 7 with fail
  generalize w3.alloc (.cells #[.slice none 0 0] 47) = w4 at *
  go_wp2_with fail
  refine (HRg.out w4 HG0.out.below).mono ?_
  rintro e w5 ⟨vr, k, rfl, hro, hb5⟩
  have HG5 := Lib.hid (HG0.out.keep hb5)
  obtain ⟨Ar, cr, rfl⟩ := own_form hro
  have hkl : k = RL.length := by have := hro.1; rw [prC_len] at this; omega
  have HKl := Lib.hid hkl
  have hk2 : k ≤ 2002 := by have h2 := HRl.out; have h3 := HXl.out; omega
  have HRo := Lib.hid hro
  clear hro hb5 HG0 HRg hkl
  go_wp2_with fail
  go_loopw [12, 39] (fun s12 s39 wr => ∃ (i c : Nat) (vp : Value) (P : List PV) (R : List PC) (lb : Option Nat), s12 = .int .i64 (c : Int) ∧ s39 = .int .i64 (i : Int) ∧ Hid (i ≤ k) ∧ Hid (Mg w3 wr vp P R lb) ∧ Hid (RegKept w5 wr) ∧ Hid (foldM base x y (RL.take i) = (c, R)) ∧ Hid (RegsOK base.length c (RL.drop i)) ∧ Hid (tot R ≤ 7000 * i ∧ R.length ≤ 2 * i ∧ c ≤ n)) (fun _ s39 _ => k - (intOf s39).toNat)
  case atStart => exact ⟨0, 0, _, [], [], none, rfl, rfl, Lib.hid (Nat.zero_le _), HG5, Lib.hid (RegKept.refl _), Lib.hid rfl, HRok, Lib.hid ⟨Nat.zero_le _, Nat.zero_le _, Nat.zero_le _⟩⟩
  case round =>
    clear HG5 HRok
    obtain ⟨i, c, vp, P, R, lb, rfl, rfl, HI, HM, HRk, HFo, HOk, HTt⟩ := hrel
    by_cases hlt : i < k
    · have hltz : (i : Int) < (k : Int) := by omega
      have hiL : i < RL.length := by rw [← HKl.out]; exact hlt
      obtain ⟨br, hA, hbr, hcells⟩ := reg_cells (own_reg HRo.out HRk.out) (by omega)
      subst hA
      obtain ⟨q0, q1⟩ := hcells i hiL
      have hdr := List.drop_eq_getElem_cons hiL
      have hok := HOk.out
      rw [hdr] at hok
      have htk := List.take_succ_eq_append_getElem hiL
      have hfo := foldM_snoc base x y (RL.take i) RL[i]
      rw [← htk, HFo.out] at hfo
      obtain ⟨⟨r1, r2⟩, hr⟩ : ∃ r, r = RL[i] := ⟨_, rfl⟩
      rw [← hr] at q0 q1 hok hfo
      dsimp only at q0 q1
      obtain ⟨o1, o2, o3, o4⟩ := hok
      dsimp only at o1 o2 o3 o4
      have HFo2 := Lib.hid hfo
      have HOk2 := Lib.hid o4
      clear hr hdr htk hfo o4 HOk HFo hcells
      have hr2 : r2 ≤ n := by have := HN.out; omega
      go_upto_region 10 with fail
      have hal := (Below.refl wr.heap.size wr).alloc (Nat.le_refl _) (.cells #[.int .i64 (r1 : Int), .int .i64 (r2 : Int)] 51)
      have HBx := Lib.hid (Blk.new wr 51 #[.int .i64 (r1 : Int), .int .i64 (r2 : Int)] rfl)
      have HM6 := Lib.hid (HM.out.keep hal)
      have HRk6 := Lib.hid (HRk.out.trans (RegKept.of_below hal))
      clear hal HM HRk q0 q1 hbr
      generalize wr.alloc (.cells #[.int .i64 (r1 : Int), .int .i64 (r2 : Int)] 51) = w6 at *
      generalize wr.heap.size = g at *
      have HCt := Lib.hid ((HS3.out.keep HM6.out.below).cut c r1 o1 (by omega))
      have hgl : ((base.drop c).take (r1 - c)).length ≤ 1000 := by rw [List.length_take, List.length_drop]; have := Hlen.out; omega
      have HGl := Lib.hid hgl
      obtain ⟨gap, hgap⟩ : ∃ gap, gap = (base.drop c).take (r1 - c) := ⟨_, rfl⟩
      rw [← hgap] at HCt HGl
      have HGap := Lib.hid hgap
      obtain ⟨Ag, hAg⟩ : ∃ z, (if ca = c then A else A.map (·.add c)) = z := ⟨_, rfl⟩
      rw [hAg] at HCt
      have HC := Lib.hid (sure_any gap _ w3 w6 vp P R lb HM6.out HCt.out (by have := HTt.out.2.1; omega) (by have := HTt.out.1; have := HGl.out; omega))
      have q0 := (HBx.out.cell.1 0).trans rfl
      have ic : (c : Int) ≤ (r1 : Int) := by omega
      have ir : (r1 : Int) ≤ (ca : Int) := by omega
      clear hgap hgl HM6 HCt
      go_wp2_with fail
      refine HC.out.mono ?_
      rintro e w7 ⟨rfl, hk7, vp7, P7, lb7, hM7⟩
      have HB7 := Lib.hid (hk7 _ _ HBx.out)
      have HR7 := Lib.hid (HRk6.out.trans hk7)
      have HM7 := Lib.hid hM7
      have HW7 := Lib.hid (show w3.heap.size + 1 ≤ w7.heap.size from (Array.getElem?_eq_some_iff.1 hM7.box).1)
      have HT7 := Lib.hid (show tot (surR R gap) ≤ 7000 * i + 1000 ∧ (surR R gap).length ≤ 2 * i + 1 from ⟨by have h1 := tot_sur R gap; have := HTt.out.1; have := HGl.out; omega, by have h1 := len_sur R gap; have := HTt.out.2.1; omega⟩)
      obtain ⟨R1, hR1⟩ : ∃ R1, R1 = surR R gap := ⟨_, rfl⟩
      rw [← hR1] at HM7 HT7
      have HR1 := Lib.hid hR1
      clear hk7 hM7 HC HBx HRk6 q0 ic ir hR1 hAg
      have q0 := (HB7.out.cell.1 0).trans rfl
      have q1 := (HB7.out.cell.1 1).trans rfl
      have HCx := Lib.hid (side_any base x r1 r2 _ vx w7 (HS3.out.keep HM7.out.below) (HX3.out.keep HM7.out.below) HDx.out.1 o2 o3 Hlen.out.1 HXl.out.1 (by have := HNs.out.1; omega))
      go_wp2_with fail
      refine HCx.out.mono ?_
      rintro e w8 ⟨v1, rfl, ho1, hb8⟩
      obtain ⟨pa, c_a, rfl⟩ := own_form ho1
      obtain ⟨f1, hf1⟩ : ∃ f, decide (sideH (r1, r2) x ≠ []) = f := ⟨_, rfl⟩
      rw [hf1]
      have HF1 := Lib.hid (show f1 = true ↔ sideH (r1, r2) x ≠ [] by rw [← hf1]; exact decide_eq_true_iff)
      clear hf1
      have HO1 := Lib.hid ho1
      have HB8 := Lib.hid hb8
      have HM8 := Lib.hid (HM7.out.keep hb8)
      have HB8s := Lib.hid (show w7.heap.size ≤ w8.heap.size from hb8.size)
      have HBx8 := Lib.hid (HB7.out.keep hb8)
      clear ho1 hb8 q0 q1 HCx
      have q0 := (HBx8.out.cell.1 0).trans rfl
      have q1 := (HBx8.out.cell.1 1).trans rfl
      have HCy := Lib.hid (side_any base y r1 r2 _ vy w8 (HS3.out.keep HM8.out.below) (HY3.out.keep HM8.out.below) HDy.out.1 o2 o3 Hlen.out.1 HXl.out.2 (by have := HNs.out.2; omega))
      go_wp2_with fail
      refine HCy.out.mono ?_
      rintro e w9 ⟨v2, rfl, ho2, hb9⟩
      obtain ⟨pb, c_b, rfl⟩ := own_form ho2
      obtain ⟨f2, hf2⟩ : ∃ f, decide (sideH (r1, r2) y ≠ []) = f := ⟨_, rfl⟩
      rw [hf2]
      have HF2 := Lib.hid (show f2 = true ↔ sideH (r1, r2) y ≠ [] by rw [← hf2]; exact decide_eq_true_iff)
      clear hf2
      have HO2 := Lib.hid ho2
      have HO1' := Lib.hid (own_keep HO1.out hb9)
      have HM9 := Lib.hid (HM8.out.keep hb9)
      have HBx9 := Lib.hid (HBx8.out.keep hb9)
      have HB9 := Lib.hid (HB8.out.trans (hb9.mono HB8.out.size))
      have HR9 := Lib.hid (HR7.out.trans (RegKept.of_below HB9.out))
      have HT1 := Lib.hid (show (sideT base (r1, r2) x).length ≤ 2000 ∧ (sideT base (r1, r2) y).length ≤ 2000 from ⟨by have h1 := sideT_len (r := (r1, r2)) HDx.out.1 o2 o3; have := HNs.out.1; have := Hlen.out.1; omega, by have h1 := sideT_len (r := (r1, r2)) HDy.out.1 o2 o3; have := HNs.out.2; have := Hlen.out.1; omega⟩)
      have HSt := Lib.hid (stepM_cases base x y c R (r1, r2))
      dsimp only at HSt
      rw [← HGap.out, ← HR1.out] at HSt
      have HFo3 := Lib.hid HFo2.out
      clear ho2 hb9 q0 q1 HCy HM7 HM8 HB8 HBx8 HB7 HO1
      generalize sideT base (r1, r2) x = t1 at *
      generalize sideT base (r1, r2) y = t2 at *
      generalize sideH (r1, r2) x = s1 at *
      generalize sideH (r1, r2) y = s2 at *
      go_upto_region 15 with fail
      go_cut [85] from 85 to 92 (fun s85 wx => s85 = .bool (decide (s2 = [] ∨ t1 = t2)) ∧ Below w9.heap.size w9 wx)
      case first =>
        cases f2 with
        | false =>
          have h2 : s2 = [] := by
            by_cases h : s2 = []
            · exact h
            · cases HF2.out.2 h
          have HZ := Lib.hid (show decide (s2 = [] ∨ t1 = t2) = true from decide_eq_true (.inl h2))
          clear h2
          go_wp2_with fail
          go_meet
          exact ⟨by rw [HZ.out], Below.refl _ _⟩
        | true =>
          have h2 : s2 ≠ [] := HF2.out.1 rfl
          have HZ := Lib.hid (show decide (s2 = [] ∨ t1 = t2) = decide (t1 = t2) from by simp [h2])
          have HEq := Lib.hid (equal_any t1 t2 _ _ w9 (SL.of_own HO1'.out) (SL.of_own HO2.out) (by have := HT1.out; omega))
          clear h2
          go_wp2_with fail
          refine HEq.out.mono ?_
          rintro e w10 ⟨rfl, hb10⟩
          have HB10 := Lib.hid hb10
          clear hb10
          go_wp2_with fail
          go_meet
          exact ⟨by rw [HZ.out], HB10.out⟩
      case rest =>
        obtain ⟨rfl, hbc⟩ := hcut
        have HM10 := Lib.hid (HM9.out.keep hbc)
        have HBx10 := Lib.hid (HBx9.out.keep hbc)
        have HR10 := Lib.hid (HR9.out.trans (RegKept.of_below hbc))
        have HO1c := Lib.hid (own_keep HO1'.out hbc)
        have HO2c := Lib.hid (own_keep HO2.out hbc)
        have HBc := Lib.hid (HB9.out.trans (hbc.mono HB9.out.size))
        clear hbc HM9 HBx9 HR9 HO1' HO2 HB9
        by_cases hc : s2 = [] ∨ t1 = t2
        · have HStp := Lib.hid (HFo3.out.trans (HSt.out.1 hc))
          have HC1 := Lib.hid (sure_any t1 _ w3 wc vp7 P7 R1 lb7 HM10.out (SL.of_own HO1c.out) (by have := HT7.out.2; omega) (by have := HT7.out.1; have := HT1.out; omega))
          have HT2 := Lib.hid (show tot (surR R1 t1) ≤ 7000 * (i + 1) ∧ (surR R1 t1).length ≤ 2 * (i + 1) from ⟨by have h1 := tot_sur R1 t1; have := HT7.out.1; have := HT1.out; omega, by have h1 := len_sur R1 t1; have := HT7.out.2; omega⟩)
          rw [decide_eq_true hc]
          clear hc HSt
          go_wp2_with fail
          refine HC1.out.mono ?_
          rintro e w11 ⟨rfl, hk11, vp11, P11, lb11, hM11⟩
          have HM11 := Lib.hid hM11
          have HR11 := Lib.hid (HR10.out.trans hk11)
          clear hk11 hM11
          go_wp2_with fail
          exact ⟨⟨i + 1, r2, vp11, P11, _, lb11, rfl, by go_num, Lib.hid hlt, HM11, HR11, HStp, HOk2, Lib.hid ⟨HT2.out.1, HT2.out.2, hr2⟩⟩, by simp [intOf]; omega⟩
        · rw [decide_eq_false hc]
          cases f1 with
          | false =>
            have h1 : s1 = [] := by
              by_cases h : s1 = []
              · exact h
              · cases HF1.out.2 h
            have HStp := Lib.hid (HFo3.out.trans (HSt.out.2.1 hc h1))
            have HC1 := Lib.hid (sure_any t2 _ w3 wc vp7 P7 R1 lb7 HM10.out (SL.of_own HO2c.out) (by have := HT7.out.2; omega) (by have := HT7.out.1; have := HT1.out; omega))
            have HT2 := Lib.hid (show tot (surR R1 t2) ≤ 7000 * (i + 1) ∧ (surR R1 t2).length ≤ 2 * (i + 1) from ⟨by have h1 := tot_sur R1 t2; have := HT7.out.1; have := HT1.out; omega, by have h1 := len_sur R1 t2; have := HT7.out.2; omega⟩)
            clear hc HSt h1
            go_wp2_with fail
            refine HC1.out.mono ?_
            rintro e w11 ⟨rfl, hk11, vp11, P11, lb11, hM11⟩
            have HM11 := Lib.hid hM11
            have HR11 := Lib.hid (HR10.out.trans hk11)
            clear hk11 hM11
            go_wp2_with fail
            exact ⟨⟨i + 1, r2, vp11, P11, _, lb11, rfl, by go_num, Lib.hid hlt, HM11, HR11, HStp, HOk2, Lib.hid ⟨HT2.out.1, HT2.out.2, hr2⟩⟩, by simp [intOf]; omega⟩
          | true =>
            have h1 : s1 ≠ [] := HF1.out.1 rfl
            have HStp := Lib.hid (HFo3.out.trans (HSt.out.2.2 hc h1))
            clear hc HSt h1
            go_upto_region 14 with fail
            obtain ⟨Lz, hLz⟩ : ∃ Lz, Lz = (base.drop r1).take (r2 - r1) := ⟨_, rfl⟩
            rw [← hLz] at HStp
            have HCt2 := Lib.hid ((HS3.out.keep HM10.out.below).cut r1 r2 o2 (by omega))
            rw [← hLz] at HCt2
            have hlz : Lz.length ≤ 1000 := by rw [hLz, List.length_take, List.length_drop]; have := Hlen.out.1; omega
            have HLz2 := Lib.hid hlz
            have HLz := Lib.hid (show Lz.length * 16 ≤ 140737488355328 by omega)
            clear hlz
            clear hLz
            obtain ⟨Ax, hAx⟩ : ∃ z, (if ca = r1 then A else A.map (·.add r1)) = z := ⟨_, rfl⟩
            rw [hAx] at HCt2
            obtain ⟨pp, np, cp, rfl⟩ : ∃ p n c, vp7 = .slice p n c := by obtain ⟨p, c, e⟩ := own_form HM10.out.own; exact ⟨p, _, c, e⟩
            have hnp : np = P7.length := by
              rcases HM10.out.own.2 with ⟨e, h0⟩ | ⟨g, cap, cur, e, _⟩
              · injection e with e1 e2 e3; omega
              · injection e
            have hnp2 : np ≤ 100000 := by have := HM10.out.lenR; have := HT7.out.2; omega
            have HNp := Lib.hid hnp
            have HBm := Lib.hid HM10.out.box
            have hbl : w3.heap.size < wc.heap.size := (Array.getElem?_eq_some_iff.1 HM10.out.box).1
            obtain ⟨i0, hi, hz0, hz1, hz2⟩ := info_parts pieceInfo
            have ir1 : (r1 : Int) ≤ (r2 : Int) := by omega
            have ir2 : (r2 : Int) ≤ (ca : Int) := by omega
            clear hnp
            have hS : wc.drew.cell? ⟨w3.heap.size, 0, none⟩ = some (.slice pp np cp) ∧ wc.drew.cell? ⟨g, 0, none⟩ = some (.int .i64 (r1 : Int)) ∧ wc.drew.cell? ⟨g, 1, none⟩ = some (.int .i64 (r2 : Int)) := ⟨(HBm.out.cell.1 0).trans rfl, (HBx10.out.cell.1 0).trans rfl, (HBx10.out.cell.1 1).trans rfl⟩
            refine wp_region_tail 19 (fun W => W.cell? ⟨w3.heap.size, 0, none⟩ = some (.slice pp np cp) ∧ W.cell? ⟨g, 0, none⟩ = some (.int .i64 (r1 : Int)) ∧ W.cell? ⟨g, 1, none⟩ = some (.int .i64 (r2 : Int))) (by kernel_rfl) (by decide) ?_
            refine wpAnyT_take 99 0 (v := ?_) (by kernel_rfl) rfl (by kernel_rfl) (fun _ _ _ h => h) (Or.inl ⟨by rfl, fun W hW => ?_⟩) (by with_reducible assumption) ?_
            rotate_left
            focus ((try dsimp only at hW); go_simp; try with_reducible rfl)
            refine wpAnyT_take 99 1 (v := ?_) (by kernel_rfl) rfl (by kernel_rfl) (fun _ _ _ h => h) (Or.inl ⟨by rfl, fun W hW => ?_⟩) (by with_reducible assumption) ?_
            rotate_left
            focus ((try dsimp only at hW); go_simp; try with_reducible rfl)
            refine wpAnyT_take 99 2 (v := ?_) (by kernel_rfl) rfl (by kernel_rfl) (fun _ _ _ h => h) (Or.inl ⟨by rfl, fun W hW => ?_⟩) (by with_reducible assumption) ?_
            rotate_left
            focus ((try dsimp only at hW); go_simp; try with_reducible rfl)
            refine wpAnyT_take 99 3 (v := ?_) (by kernel_rfl) rfl (by kernel_rfl) (fun _ _ _ h => h) (Or.inl ⟨by rfl, fun W hW => ?_⟩) (by with_reducible assumption) ?_
            rotate_left
            focus ((try dsimp only at hW); go_simp; try with_reducible rfl)
            refine wpAnyT_take 99 4 (v := ?_) (by kernel_rfl) rfl (by kernel_rfl) (fun _ _ _ h => h) (Or.inl ⟨by rfl, fun W hW => ?_⟩) (by with_reducible assumption) ?_
            rotate_left
            focus ((try dsimp only at hW); go_simp; try with_reducible rfl)
            refine wpAnyT_take 99 5 (v := ?_) (by kernel_rfl) rfl (by kernel_rfl) (fun _ _ _ h => h) (Or.inl ⟨by rfl, fun W hW => ?_⟩) (by with_reducible assumption) ?_
            rotate_left
            focus ((try dsimp only at hW); go_simp; try with_reducible rfl)
            refine wpAnyT_take 99 6 (v := ?_) (by kernel_rfl) rfl (by kernel_rfl) (fun _ _ _ h => h) (Or.inl ⟨by rfl, fun W hW => ?_⟩) (by with_reducible assumption) ?_
            rotate_left
            focus ((try dsimp only at hW); go_simp; try with_reducible rfl)
            refine wpAnyT_take 99 7 (v := ?_) (by kernel_rfl) rfl (by kernel_rfl) (fun _ _ _ h => h) (Or.inl ⟨by rfl, fun W hW => ?_⟩) (by with_reducible assumption) ?_
            rotate_left
            focus ((try dsimp only at hW); go_simp; try with_reducible rfl)
            refine wpAnyT_take 99 8 (v := ?_) (by kernel_rfl) rfl (by kernel_rfl) (fun _ _ _ h => h) (Or.inl ⟨by rfl, fun W hW => ?_⟩) (by with_reducible assumption) ?_
            rotate_left
            focus ((try dsimp only at hW); go_simp; try with_reducible rfl)
            refine wpAnyT_take 99 9 (v := ?_) (by kernel_rfl) rfl (by kernel_rfl) (fun _ _ _ h => h) (Or.inl ⟨by rfl, fun W hW => ?_⟩) (by with_reducible assumption) ?_
            rotate_left
            focus ((try dsimp only at hW); go_simp; try with_reducible rfl)
            refine wpAnyT_take 99 10 (v := ?_) (by kernel_rfl) rfl (by kernel_rfl) (fun _ _ _ h => h) (Or.inl ⟨by rfl, fun W hW => ?_⟩) (by with_reducible assumption) ?_
            rotate_left
            focus ((try dsimp only at hW); go_simp; try with_reducible rfl)
            refine wpAnyT_take 99 12 (v := ?_) (by kernel_rfl) rfl (by kernel_rfl) (fun _ _ _ h => h) (Or.inl ⟨by rfl, fun W hW => ?_⟩) (by with_reducible assumption) ?_
            rotate_left
            focus ((try dsimp only at hW); go_simp; try with_reducible rfl)
            refine wpAnyT_take 99 13 (v := ?_) (by kernel_rfl) rfl (by kernel_rfl) (fun _ _ _ h => h) (Or.inl ⟨by rfl, fun W hW => ?_⟩) (by with_reducible assumption) ?_
            rotate_left
            focus ((try dsimp only at hW); go_simp; try with_reducible rfl)
            simp only [Act.put, List.getElem_toArray, List.getElem_cons_zero, List.getElem_cons_succ, List.setIfInBounds_toArray, List.set_cons_zero, List.set_cons_succ]
            refine wpAnyT_one 11 (by kernel_rfl) (by decide) ?_
            refine wpOp_at rfl rfl (fun K hK => ?_)
            go_simp
            refine (clone_any Lz _ _ (HCt2.out.keep (Below.refl _ _).drew) HLz.out).mono ?_
            rintro e we ⟨vz, rfl, hoz, hbz⟩
            have hxb : Below wc.heap.size wc we := below_of_drew hbz
            obtain ⟨pz, cz, rfl⟩ := own_form hoz
            have HOz := Lib.hid (own_base (b' := w3.heap.size + 1) hoz (by show w3.heap.size + 1 ≤ wc.heap.size; omega))
            have hSe : we.cell? ⟨w3.heap.size, 0, none⟩ = some (.slice pp np cp) ∧ we.cell? ⟨g, 0, none⟩ = some (.int .i64 (r1 : Int)) ∧ we.cell? ⟨g, 1, none⟩ = some (.int .i64 (r2 : Int)) := ⟨((HBm.out.keep hxb).cell.1 0).trans rfl, ((HBx10.out.keep hxb).cell.1 0).trans rfl, ((HBx10.out.keep hxb).cell.1 1).trans rfl⟩
            clear hoz hbz hS
            refine hK.out _ _ ⟨hSe, ?_⟩
            clear hK K
            refine wpAnyT_take 99 14 (v := .agg #[.bool true, .slice none 0 0, .slice pz Lz.length cz, .slice pa t1.length c_a, .slice pb t2.length c_b]) (by kernel_rfl) rfl (by kernel_rfl) (fun _ _ _ h => h) (Or.inl ⟨by rfl, fun W hW => ?_⟩) hSe ?_
            · go_simp
            refine wpAnyT_one 15 (by kernel_rfl) (by decide) ?_
            refine wpOp_at rfl rfl (fun K hK => ?_)
            go_simp
            have hxc : Below wc.heap.size wc (we.alloc (.cells #[.bool true, .slice none 0 0, .slice pz Lz.length cz, .slice pa t1.length c_a, .slice pb t2.length c_b] 29)) := hxb.alloc hxb.size _
            have hxd := (Below.refl we.heap.size we).alloc (Nat.le_refl _) (.cells #[.bool true, .slice none 0 0, .slice pz Lz.length cz, .slice pa t1.length c_a, .slice pb t2.length c_b] 29)
            have hSc : (we.alloc (.cells #[.bool true, .slice none 0 0, .slice pz Lz.length cz, .slice pa t1.length c_a, .slice pb t2.length c_b] 29)).cell? ⟨w3.heap.size, 0, none⟩ = some (.slice pp np cp) ∧ (we.alloc (.cells #[.bool true, .slice none 0 0, .slice pz Lz.length cz, .slice pa t1.length c_a, .slice pb t2.length c_b] 29)).cell? ⟨g, 0, none⟩ = some (.int .i64 (r1 : Int)) ∧ (we.alloc (.cells #[.bool true, .slice none 0 0, .slice pz Lz.length cz, .slice pa t1.length c_a, .slice pb t2.length c_b] 29)).cell? ⟨g, 1, none⟩ = some (.int .i64 (r2 : Int)) := ⟨((HBm.out.keep hxc).cell.1 0).trans rfl, ((HBx10.out.keep hxc).cell.1 0).trans rfl, ((HBx10.out.keep hxc).cell.1 1).trans rfl⟩
            refine hK.out _ _ ⟨hSc, ?_⟩
            clear hK K
            have hM2 := HM10.out.keep hxc
            have hz7 : w3.heap.size + 1 ≤ w7.heap.size := HW7.out
            have HHd := Lib.hid (show IsHead (we.alloc (.cells #[.bool true, .slice none 0 0, .slice pz Lz.length cz, .slice pa t1.length c_a, .slice pb t2.length c_b] 29)) (w3.heap.size + 1) none (true, (none, 0, 0), (pz, Lz.length, cz), (pa, t1.length, c_a), (pb, t2.length, c_b)) ⟨true, [], Lz, t1, t2⟩ from ⟨rfl, World.ownsRow_nil _ _ _ _, fun e => (by cases e), fun _ => rfl, OwnS.new (own_keep HOz.out hxd) (.inl rfl), OwnS.new (own_base (own_keep HO1c.out hxc) hz7) (.inl rfl), OwnS.new (own_base (own_keep HO2c.out hxc) (Nat.le_trans hz7 HB8s.out)) (.inl rfl)⟩)
            refine wpAnyT_one 16 (by kernel_rfl) (by decide) ?_
            refine wpOp_at rfl rfl (fun K hK => ?_)
            have hprow := hM2.own
            rw [← HNp.out] at hprow
            refine wp_append_lies _ _ _ 24 (by rfl) (w3.heap.size + 1) 29 i0 _ 5 104 Tryd.underlying24 hi hz0 hz1 hz2 rfl (by decide) (.slice pp np cp) np (prP P7) (by rfl) hprow _ 1 1 [.bool true, .slice none 0 0, .slice pz Lz.length cz, .slice pa t1.length c_a, .slice pb t2.length c_b] (by rfl) rfl (World.news_of_block (heap_alloc_new _ _)) (by intro u hu; simp at hu; rcases hu with rfl | rfl | rfl | rfl | rfl <;> rfl) (by decide) (by unfold maxLen; omega) (by omega) (by have := hxc.size; omega) _ rfl ?_
            intro g1 cap w9 hown hgr hat hlt9
            have HF := Lib.hid (HM10.out.put (p := (true, (none, 0, 0), (pz, Lz.length, cz), (pa, t1.length, c_a), (pb, t2.length, c_b))) (q := ⟨true, [], Lz, t1, t2⟩) hxc HHd.out (.inl rfl) (by rw [← HNp.out]; exact hown) hgr)
            have hbx9 : Blk w9 w3.heap.size 47 #[.slice pp np cp] := (hgr.block w3.heap.size (Nat.lt_of_lt_of_le hbl hxc.size) (fun e => own_blk hprow (HBm.out.keep hxc) (by decide) w3.heap.size e.symm rfl)).trans (HBm.out.keep hxc)
            have hk9 := (RegKept.of_below hxc).trans (RegKept.grown hprow (by decide) hgr)
            have hbr9 := hk9 _ _ HBx10.out
            have HK9 := Lib.hid (show RegKept w5 (w9.setCell ⟨w3.heap.size, 0, none⟩ (.slice (some ⟨g1, 0, none⟩) (np + 1) cap)) from
              (HR10.out.trans hk9).trans (RegKept.set hbx9 (by decide)))
            have hS9 : w9.cell? ⟨w3.heap.size, 0, none⟩ = some (.slice pp np cp) ∧ w9.cell? ⟨g, 0, none⟩ = some (.int .i64 (r1 : Int)) ∧ w9.cell? ⟨g, 1, none⟩ = some (.int .i64 (r2 : Int)) := ⟨(hbx9.cell.1 0).trans rfl, (hbr9.cell.1 0).trans rfl, (hbr9.cell.1 1).trans rfl⟩
            have hz9 := hbx9.cell.2 0
            have hc9 := hS9.1
            clear hown hgr hat hlt9 hbx9 hprow hM2 hSe hSc hbr9 hk9 hz7
            refine hK.out _ _ ⟨hS9, ?_⟩
            clear hK K
            refine wpAnyT_take 99 17 (v := ?_) (by kernel_rfl) rfl (by kernel_rfl) (fun _ _ _ h => h) (Or.inl ⟨by rfl, fun W hW => ?_⟩) hS9 ?_
            rotate_left
            focus ((try dsimp only at hW); go_simp; try with_reducible rfl)
            refine wpAnyT_take 99 18 (v := ?_) (by kernel_rfl) rfl (by kernel_rfl) (fun _ _ _ h => h) (Or.inl ⟨by rfl, fun W hW => ?_⟩) hS9 ?_
            rotate_left
            focus ((try dsimp only at hW); go_simp; try with_reducible rfl)
            simp only [Act.put, List.getElem_toArray, List.getElem_cons_zero, List.getElem_cons_succ, List.setIfInBounds_toArray, List.set_cons_zero, List.set_cons_succ]
            refine ⟨by kernel_rfl, ?_⟩
            simp only [List.drop_succ_cons, List.drop_zero]
            clear hS9
            go_wp2_with fail
            exact ⟨⟨i + 1, r2, _, _, _, _, rfl, by go_num, Lib.hid hlt, HF, HK9, HStp, HOk2, Lib.hid ⟨by have := HT7.out.1; have := HT1.out; have := HLz2.out; simp only [tot, List.length_nil]; omega, by have := HT7.out.2; simp only [List.length_cons]; omega, hr2⟩⟩, by simp [intOf]; omega⟩
    · have hnz : ¬ (i : Int) < (k : Int) := by omega
      obtain rfl : i = k := by have := HI.out; omega
      have hfo := HFo.out
      rw [List.take_of_length_le (by have := HKl.out; omega)] at hfo
      have HEnd := Lib.hid (show mergeR base x y = surR R (base.drop c) by
        unfold mergeR
        have h1 := hfo
        unfold foldM at h1
        rw [← HRL.out, h1])
      have HCt := Lib.hid ((HS3.out.keep HM.out.below).cut c n HTt.out.2.2 (by have := HN.out; omega))
      rw [show (base.drop c).take (n - c) = base.drop c from List.take_of_length_le (by rw [List.length_drop]; have := HN.out; omega)] at HCt
      have hgl : (base.drop c).length ≤ 1000 := by rw [List.length_drop]; have := Hlen.out; omega
      have hcn : (c : Int) ≤ (n : Int) := by have := HTt.out.2.2; omega
      obtain ⟨Ag, hAg⟩ : ∃ z, (if ca = c then A else A.map (·.add c)) = z := ⟨_, rfl⟩
      rw [hAg] at HCt
      have HC := Lib.hid (sure_any (base.drop c) _ w3 wr vp P R lb HM.out HCt.out (by have := HTt.out.2.1; omega) (by have := HTt.out.1; omega))
      have HGl := Lib.hid hgl
      clear hfo hgl hlt
      go_wp2_with fail
      refine HC.out.mono ?_
      rintro e w7 ⟨rfl, hk7, vp7, P7, lb7, hM7⟩
      rw [← HEnd.out] at hM7
      have HPc := Lib.hid hM7.pcl
      have HTe := Lib.hid (show tot (mergeL base a b) ≤ 20000000 ∧ (mergeL base a b).length ≤ 10000 from by
        rw [HMr.out, HEnd.out, tot_rev, List.length_reverse]
        have h1 := tot_sur R (base.drop c)
        have h2 := len_sur R (base.drop c)
        have h3 := HTt.out
        have h4 := HGl.out
        omega)
      rw [← HMr.out] at HPc
      have c0 := (hM7.box.cell.1 0).trans rfl
      have HF := Lib.hid (show MergeP base a b w (.returned (.tuple #[vp7, .int .i64 0])) w7 from ⟨_, 0, rfl, by simpa using HNe.out, fun _ => ⟨HPc.out, HTe.out⟩, HBw.out.trans (hM7.below.mono HBw.out.size)⟩)
      clear hk7 hM7 HC
      go_wp2_with fail
      rw [← HQ.out]
      exact HF.out
end Go.Proofs.YtpnnojepbmpfiaaDoor
