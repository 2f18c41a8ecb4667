/- Decimals in memory: comparing. -/
import Derived.Test.YthodlgjfmddemaaGreatDoorRkW
namespace Go.Proofs.YthodlgjfmddemaaGreatDoor.Rk
open Go.RowKit

def cmpB (b1 b2 : Bool) (n1 n2 : Nat) : Int :=
  if (b1 ≠ b2 ∧ b1 = true) ∨ (b1 = true ∧ n2 < n1) ∨ (b1 = false ∧ b2 = false ∧ n1 < n2) then -1
  else if b1 ≠ b2 ∨ n1 ≠ n2 then 1 else 0
theorem cmp_eq (d e : Dec) : d.cmp e = cmpB (d.cut (max d.scale e.scale)).below (e.cut (max d.scale e.scale)).below (d.cut (max d.scale e.scale)).n (e.cut (max d.scale e.scale)).n := rfl
theorem cmp_lt {b1 b2 : Bool} {n1 n2 : Nat} (h : n1 < n2) : cmpB b1 b2 n1 n2 = if b2 = true then 1 else -1 := by
  have h1 : ¬ n2 < n1 := by omega
  have h2 : ¬ n1 = n2 := by omega
  cases b1 <;> cases b2 <;> simp [cmpB, h, h1, h2]
theorem cmp_eq2 {b1 b2 : Bool} {n1 n2 : Nat} (h : n1 = n2) : cmpB b1 b2 n1 n2 = if b1 = true then (if b2 = true then 0 else -1) else (if b2 = true then 1 else 0) := by
  subst h
  cases b1 <;> cases b2 <;> simp [cmpB]
theorem cmp_gt {b1 b2 : Bool} {n1 n2 : Nat} (h : n2 < n1) : cmpB b1 b2 n1 n2 = if b1 = true then -1 else 1 := by
  have h1 : ¬ n1 < n2 := by omega
  have h2 : ¬ n1 = n2 := by omega
  cases b1 <;> cases b2 <;> simp [cmpB, h, h1, h2]
/-- two boxes and a third block -/
structure Two (w0 w : World) (g : Nat) (x1 x2 x3 y1 y2 y3 : Value) : Prop where
  below : Below w0.heap.size w0 w
  a : B3 w g x1 x2 x3
  b : B3 w (g + 1) y1 y2 y3
theorem Two.new (w : World) (x1 x2 x3 y1 y2 y3 : Value) : Two w ((w.alloc (.cells #[x1, x2, x3] 48)).alloc (.cells #[y1, y2, y3] 48)) w.heap.size x1 x2 x3 y1 y2 y3 := by
  refine ⟨((Below.refl _ _).alloc (Nat.le_refl _) _).alloc (by simp) _, (B3.new w _ _ _).alloc _, ?_⟩
  have := B3.new (w.alloc (.cells #[x1, x2, x3] 48)) y1 y2 y3
  rw [show (w.alloc (.cells #[x1, x2, x3] 48)).heap.size = w.heap.size + 1 by simp] at this
  exact this
theorem Two.keep {w0 w w' : World} {g : Nat} {x1 x2 x3 y1 y2 y3 : Value} (h : Two w0 w g x1 x2 x3 y1 y2 y3) (hb : Below w.heap.size w w') : Two w0 w' g x1 x2 x3 y1 y2 y3 :=
  ⟨h.below.trans (hb.mono h.below.size), h.a.below hb, h.b.below hb⟩
/-- both boxes are laid anew -/
theorem Two.sets {w0 w : World} {g : Nat} {b1 b2 : Bool} {A1 A2 : Option Addr} {n1 c1 n2 c2 : Nat} {s1 s2 : Int} (h : Two w0 w g (.bool b1) (.slice A1 n1 c1) (.int .i64 s1) (.bool b2) (.slice A2 n2 c2) (.int .i64 s2)) (hg : g = w0.heap.size) (a b c d e f : Value) :
    Two w0 (set3 (set3 w g a b c) (g + 1) d e f) g a b c d e f ∧ ∀ v n, NL w v n → NL (set3 (set3 w g a b c) (g + 1) d e f) v n := by
  have hb2 : B3 (set3 w g a b c) (g + 1) (.bool b2) (.slice A2 n2 c2) (.int .i64 s2) := by
    have := set3_heap w g a b c (g + 1) (by omega)
    exact this.trans h.b
  refine ⟨⟨below_set3 (below_set3 h.below (by omega) _ _ _) (by omega) _ _ _, ?_, hb2.set3 _ _ _⟩, fun v n hn => (hn.set3 h.a.noU).set3 hb2.noU⟩
  exact (set3_heap (set3 w g a b c) (g + 1) d e f g (by omega)).trans (h.a.set3 a b c)
/-- two decimals in their boxes -/
def TwoD (w0 w : World) (g : Nat) (D1 D2 : Dec) : Prop := ∃ A1 c1 A2 c2, Two w0 w g (.bool D1.below) (.slice A1 (nl D1.n) c1) (.int .i64 (D1.scale : Int)) (.bool D2.below) (.slice A2 (nl D2.n) c2) (.int .i64 (D2.scale : Int)) ∧ NL w (.slice A1 (nl D1.n) c1) D1.n ∧ NL w (.slice A2 (nl D2.n) c2) D2.n
set_option exponentiation.threshold 3000 in
theorem cut_nl {d : Dec} {s : Nat} (hn : nl d.n ≤ 1000) (hs : s ≤ 1000) : nl (d.cut s).n ≤ 2000 := by
  unfold Dec.cut
  split
  · refine (lt_pow_iff _ _).1 ?_
    have h1 := (lt_pow_iff 1000 d.n).2 hn
    have h2 : 10 ^ (s - d.scale) < Bq ^ 1000 := (lt_pow_iff _ _).2 (Nat.le_trans (nl_ten _) (by omega))
    rw [show 2000 = 1000 + 1000 from rfl, Nat.pow_add]
    exact Nat.mul_lt_mul'' h1 h2
  · exact Nat.le_trans (nl_mono (Nat.div_le_self _ _)) (by omega)
def CmpD (d e : Dec) (w : World) (x : Ending) (w' : World) : Prop := x = .returned (.int .i64 (d.cmp e)) ∧ Below w.heap.size w w'
set_option maxRecDepth 100000 in
set_option maxHeartbeats 6400000 in
theorem dcompare_any (u v : Value) (d e : Dec) (w : World) (hu : DecV w u d) (hv : DecV w v e) (hd : nl d.n ≤ 1000) (he : nl e.n ≤ 1000) (hds : d.scale ≤ 1000) (hes : e.scale ≤ 1000) :
    Calls Tryz.prog 20 #[u, v] w (CmpD d e w) := by
  obtain ⟨nu, rfl, hnu⟩ := hu
  obtain ⟨nv, rfl, hnv⟩ := hv
  obtain ⟨A, c, rfl, _, _⟩ := RL.form hnu
  obtain ⟨A2, c2, rfl, _, _⟩ := RL.form hnv
  obtain ⟨M, hM⟩ : ∃ M, M = max d.scale e.scale := ⟨_, rfl⟩
  have emx : max (d.scale : Int) (e.scale : Int) = (M : Int) := by omega
  have hMb : M ≤ 1000 := by omega
  have hce : d.cmp e = cmpB (d.cut M).below (e.cut M).below (d.cut M).n (e.cut M).n := by rw [cmp_eq, hM]
  have hc1 := cut_nl (d := d) (s := M) hd hMb
  have hc2 := cut_nl (d := e) (s := M) he hMb
  have HC1 := Lib.hid (fun v W h => cut_any v d M W h (by omega) (by omega) (by omega))
  have HC2 := Lib.hid (fun v W h => cut_any v e M W h (by omega) (by omega) (by omega))
  obtain ⟨Q, hQ⟩ : ∃ Q, CmpD d e w = Q := ⟨_, rfl⟩
  rw [hQ]
  have HQ := Lib.hid hQ
  obtain ⟨D1, hD1⟩ : ∃ D, D = d.cut M := ⟨_, rfl⟩
  obtain ⟨D2, hD2⟩ : ∃ D, D = e.cut M := ⟨_, rfl⟩
  rw [← hD1] at hc1 hce HC1
  rw [← hD2] at hc2 hce HC2
  have hT := Two.new w (.bool d.below) (.slice A (nl d.n) c) (.int .i64 (d.scale : Int)) (.bool e.below) (.slice A2 (nl e.n) c2) (.int .i64 (e.scale : Int))
  obtain ⟨w1, hw1⟩ : ∃ w1, w1 = (w.alloc (.cells #[.bool d.below, .slice A (nl d.n) c, .int .i64 (d.scale : Int)] 48)).alloc (.cells #[.bool e.below, .slice A2 (nl e.n) c2, .int .i64 (e.scale : Int)] 48) := ⟨_, rfl⟩
  rw [← hw1] at hT
  have HT := Lib.hid hT
  have HN1 := Lib.hid (hnu.keep hT.below)
  have HN2 := Lib.hid (hnv.keep hT.below)
  have HW1 := Lib.hid hw1
  have HCE := Lib.hid hce
  clear hM hd he hds hes hQ hD1 hD2 hnu hnv hce hw1
  obtain ⟨ka0, ka1, ka2, kaf⟩ := hT.a.cells
  obtain ⟨kb0, kb1, kb2, kbf⟩ := hT.b.cells
  obtain ⟨g, hg⟩ : ∃ g, g = w.heap.size := ⟨_, rfl⟩
  have HG := Lib.hid hg
  have hgl := hT.a.lt
  have hgl2 := hT.b.lt
  clear hg hT
  go_enter Tryz.func20, Tryz.ntmps20
  go_upto_region 2 with fail
  rw [← HW1.out, ← HG.out]
  rw [← HG.out] at ka0 ka1 ka2 kaf kb0 kb1 kb2 kbf hgl hgl2 HT
  go_cut [] (fun wx => Hid (TwoD w wx g D1 D2))
  case first =>
    go_region_with (first | (have hzz := hb5; clear hzz; go_at_call 30; refine (HC2.out _ _ ⟨_, rfl, HN2.out.drew.keep hb5⟩).mono ?_; rintro x w6 ⟨v6, rfl, ⟨nv6, rfl, hn6⟩, hb6⟩; obtain ⟨A6, c6, rfl, _, _⟩ := RL.form hn6; have hb16 : Below w1.heap.size w1 w6 := ((below_drewN (Below.refl _ w1) 1).trans hb5).trans (hb6.mono (Below.size hb5)); obtain ⟨ma0, ma1, ma2, maf⟩ := (HT.out.a.below hb16).cells; obtain ⟨mb0, mb1, mb2, mbf⟩ := (HT.out.b.below hb16).cells) | (go_at_call 30; refine (HC1.out _ _ ⟨_, rfl, HN1.out.drew⟩).mono ?_; rintro x w5 ⟨v5, rfl, ⟨nv5, rfl, hn5⟩, hb5⟩; obtain ⟨A5, c5, rfl, _, _⟩ := RL.form hn5; have hb15 : Below w1.heap.size w1 w5 := (below_drewN (Below.refl _ w1) 1).trans hb5; obtain ⟨lb0, lb1, lb2, lbf⟩ := (HT.out.b.below hb15).cells))
    all_goals
      go_simp
      try go_step
      go_meet
      exact (by
        obtain ⟨t1, t2⟩ := Two.sets (HT.out.keep hb16) HG.out (.bool D1.below) (.slice A5 (nl D1.n) c5) (.int .i64 (D1.scale : Int)) (.bool D2.below) (.slice A6 (nl D2.n) c6) (.int .i64 (D2.scale : Int))
        exact Lib.hid ⟨_, _, _, _, t1, t2 _ _ (hn5.keep hb6), t2 _ _ hn6⟩)
  case rest =>
  clear HT HN1 HN2 HC1 HC2 HW1 ka0 ka1 ka2 kaf kb0 kb1 kb2 kbf hgl hgl2
  obtain ⟨A5, c5, A6, c6, ht2, h5, h6⟩ := hcut.out
  obtain ⟨ka0, ka1, ka2, kaf⟩ := ht2.a.cells
  obtain ⟨kb0, kb1, kb2, kbf⟩ := ht2.b.cells
  have H5 := Lib.hid h5
  have H6 := Lib.hid h6
  have HB := Lib.hid ht2.below
  obtain ⟨b1, n1, s1⟩ := D1
  obtain ⟨b2, n2, s2⟩ := D2
  dsimp only at *
  have hga := ht2.a.lt
  have hgb := ht2.b.lt
  clear ht2 h5 h6 hcut
  go_wp2_with fail
  refine (compare_any _ _ n1 n2 _ H5.out H6.out (by omega) (by omega)).mono ?_
  rintro x w7 ⟨k, q, rfl, hk1, hk2, hw7⟩
  have hb7 := below_of_drewN hw7
  have HB7 := Lib.hid (HB.out.trans (hb7.mono HB.out.size))
  have m0 := (hb7.cell (p := ⟨g, 0, none⟩) hga).trans ka0
  have m1 := (hb7.cell (p := ⟨g + 1, 0, none⟩) hgb).trans kb0
  clear ka0 ka1 ka2 kaf kb0 kb1 kb2 kbf hw7 hb7 HB hga hgb
  have HK := Lib.hid (And.intro hk1 hk2)
  clear hk1 hk2
  have hcase : (k < 0 ∧ n1 < n2) ∨ (k = 0 ∧ n1 = n2) ∨ (0 < k ∧ n2 < n1) := by
    obtain ⟨a, b⟩ := HK.out
    rcases Int.lt_trichotomy k 0 with h | h | h
    · exact .inl ⟨h, a.1 h⟩
    · exact .inr (.inl ⟨h, b.1 h⟩)
    · refine .inr (.inr ⟨h, ?_⟩)
      have h1 : ¬ n1 < n2 := fun x => by have := a.2 x; omega
      have h2 : ¬ n1 = n2 := fun x => by have := b.2 x; omega
      omega
  rcases hcase with ⟨h1, h2⟩ | ⟨h1, h2⟩ | ⟨h1, h2⟩
  · have HV := HCE.out.trans (cmp_lt h2)
    have z1 : ¬ k > 0 := by omega
    have z2 : ((k : Int) != 0) = true := by simp; omega
    clear h2
    cases b1 <;> cases b2
    all_goals
      simp only [if_true, if_false, Bool.false_eq_true] at HV
      have HV := Lib.hid HV
      go_wp2_with fail
      rw [← HQ.out]
      exact ⟨ret_int HV.out.symm, HB7.out⟩
  · have HV := HCE.out.trans (cmp_eq2 h2)
    subst h1
    clear h2
    cases b1 <;> cases b2
    all_goals
      simp only [if_true, if_false, Bool.false_eq_true] at HV
      have HV := Lib.hid HV
      go_wp2_with fail
      rw [← HQ.out]
      exact ⟨ret_int HV.out.symm, HB7.out⟩
  · have HV := HCE.out.trans (cmp_gt h2)
    have z1 : ¬ k < 0 := by omega
    have z2 : ((k : Int) != 0) = true := by simp; omega
    have z3 : k > 0 := h1
    clear h2
    cases b1 <;> cases b2
    all_goals
      simp only [if_true, if_false, Bool.false_eq_true] at HV
      have HV := Lib.hid HV
      go_wp2_with fail
      rw [← HQ.out]
      exact ⟨ret_int HV.out.symm, HB7.out⟩
end Go.Proofs.YthodlgjfmddemaaGreatDoor.Rk
