/- Decimals in memory: the sum. -/
import Derived.Test.YthodlgjfmddemaaGreatDoorRkX
namespace Go.Proofs.YthodlgjfmddemaaGreatDoor.Rk
open Go.RowKit

/-- two boxes and the result's block -/
def TwoR (w0 w : World) (g : Nat) (D1 D2 : Dec) : Prop := TwoD w0 w g D1 D2 ∧ B3 w (g + 1 + 1) (.bool false) (.slice none 0 0) (.int .i64 0)
theorem res_new (w : World) (x1 x2 x3 y1 y2 y3 : Value) : B3 (((w.alloc (.cells #[x1, x2, x3] 48)).alloc (.cells #[y1, y2, y3] 48)).alloc (.cells #[.bool false, .slice none 0 0, .int .i64 0] 48)) (w.heap.size + 1 + 1) (.bool false) (.slice none 0 0) (.int .i64 0) := by
  have := B3.new ((w.alloc (.cells #[x1, x2, x3] 48)).alloc (.cells #[y1, y2, y3] 48)) (.bool false) (.slice none 0 0) (.int .i64 0)
  rw [show ((w.alloc (.cells #[x1, x2, x3] 48)).alloc (.cells #[y1, y2, y3] 48)).heap.size = w.heap.size + 1 + 1 by simp] at this
  exact this
theorem Two.more {w0 w : World} {g : Nat} {x1 x2 x3 y1 y2 y3 : Value} (h : Two w0 w g x1 x2 x3 y1 y2 y3) (o : Obj) : Two w0 (w.alloc o) g x1 x2 x3 y1 y2 y3 := h.keep ((Below.refl _ _).alloc (Nat.le_refl _) _)
set_option maxRecDepth 100000 in
set_option maxHeartbeats 6400000 in
theorem dplus_any (u v : Value) (d e : Dec) (w : World) (hu : DecV w u d) (hv : DecV w v e) (hd : nl d.n ≤ 1000) (he : nl e.n ≤ 1000) (hds : d.scale ≤ 1000) (hes : e.scale ≤ 1000) :
    Calls Tryz.prog 19 #[u, v] w (RetD (d.plus e) w) := by
  obtain ⟨nu, rfl, hnu⟩ := hu
  obtain ⟨nv, rfl, hnv⟩ := hv
  obtain ⟨A, c, rfl, _, _⟩ := RL.form hnu
  obtain ⟨A2, c2, rfl, _, _⟩ := RL.form hnv
  obtain ⟨M, hM⟩ : ∃ M, M = max d.scale e.scale := ⟨_, rfl⟩
  have emx : max (d.scale : Int) (e.scale : Int) = (M : Int) := by omega
  have hMb : M ≤ 1000 := by omega
  have hce : d.plus e = if (d.cut M).below = (e.cut M).below then Dec.clean ⟨(d.cut M).below, (d.cut M).n + (e.cut M).n, M⟩ else if (d.cut M).n < (e.cut M).n then Dec.clean ⟨(e.cut M).below, (e.cut M).n - (d.cut M).n, M⟩ else Dec.clean ⟨(d.cut M).below, (d.cut M).n - (e.cut M).n, M⟩ := by unfold Dec.plus; rw [hM]
  have hc1 := cut_nl (d := d) (s := M) hd hMb
  have hc2 := cut_nl (d := e) (s := M) he hMb
  have HC1 := Lib.hid (fun v W h => cut_any v d M W h (by omega) (by omega) (by omega))
  have HC2 := Lib.hid (fun v W h => cut_any v e M W h (by omega) (by omega) (by omega))
  obtain ⟨D, hD⟩ : ∃ D, D = d.plus e := ⟨_, rfl⟩
  rw [← hD] at hce ⊢
  obtain ⟨D1, hD1⟩ : ∃ D, D = d.cut M := ⟨_, rfl⟩
  obtain ⟨D2, hD2⟩ : ∃ D, D = e.cut M := ⟨_, rfl⟩
  rw [← hD1] at hc1 hce HC1
  rw [← hD2] at hc2 hce HC2
  have hT0 := Two.new w (.bool d.below) (.slice A (nl d.n) c) (.int .i64 (d.scale : Int)) (.bool e.below) (.slice A2 (nl e.n) c2) (.int .i64 (e.scale : Int))
  obtain ⟨w1, hw1⟩ : ∃ w1, w1 = ((w.alloc (.cells #[.bool d.below, .slice A (nl d.n) c, .int .i64 (d.scale : Int)] 48)).alloc (.cells #[.bool e.below, .slice A2 (nl e.n) c2, .int .i64 (e.scale : Int)] 48)).alloc (.cells #[.bool false, .slice none 0 0, .int .i64 0] 48) := ⟨_, rfl⟩
  have hT := hT0.more (.cells #[.bool false, .slice none 0 0, .int .i64 0] 48)
  have hR := res_new w (.bool d.below) (.slice A (nl d.n) c) (.int .i64 (d.scale : Int)) (.bool e.below) (.slice A2 (nl e.n) c2) (.int .i64 (e.scale : Int))
  rw [← hw1] at hT hR
  have HRes := Lib.hid hR
  clear hT0 hR
  have HT := Lib.hid hT
  have HN1 := Lib.hid (hnu.keep hT.below)
  have HN2 := Lib.hid (hnv.keep hT.below)
  have HW1 := Lib.hid hw1
  have HCE := Lib.hid hce
  clear hM hd he hds hes hD hD1 hD2 hnu hnv hce hw1
  obtain ⟨ka0, ka1, ka2, kaf⟩ := hT.a.cells
  obtain ⟨kb0, kb1, kb2, kbf⟩ := hT.b.cells
  obtain ⟨g, hg⟩ : ∃ g, g = w.heap.size := ⟨_, rfl⟩
  have HG := Lib.hid hg
  have hgl := hT.a.lt
  have hgl2 := hT.b.lt
  clear hg hT
  go_enter Tryz.func19, Tryz.ntmps19
  go_upto_region 2 with fail
  rw [← HW1.out, ← HG.out]
  rw [← HG.out] at ka0 ka1 ka2 kaf kb0 kb1 kb2 kbf hgl hgl2 HT HRes
  go_cut [] (fun wx => Hid (TwoR w wx g D1 D2))
  case first =>
    go_region_with (first | (have hzz := hb5; clear hzz; go_at_call 30; refine (HC2.out _ _ ⟨_, rfl, HN2.out.drew.keep hb5⟩).mono ?_; rintro x w6 ⟨v6, rfl, ⟨nv6, rfl, hn6⟩, hb6⟩; obtain ⟨A6, c6, rfl, _, _⟩ := RL.form hn6; have hb16 : Below w1.heap.size w1 w6 := ((below_drewN (Below.refl _ w1) 1).trans hb5).trans (hb6.mono (Below.size hb5)); obtain ⟨ma0, ma1, ma2, maf⟩ := (HT.out.a.below hb16).cells; obtain ⟨mb0, mb1, mb2, mbf⟩ := (HT.out.b.below hb16).cells) | (go_at_call 30; refine (HC1.out _ _ ⟨_, rfl, HN1.out.drew⟩).mono ?_; rintro x w5 ⟨v5, rfl, ⟨nv5, rfl, hn5⟩, hb5⟩; obtain ⟨A5, c5, rfl, _, _⟩ := RL.form hn5; have hb15 : Below w1.heap.size w1 w5 := (below_drewN (Below.refl _ w1) 1).trans hb5; obtain ⟨lb0, lb1, lb2, lbf⟩ := (HT.out.b.below hb15).cells))
    all_goals
      go_simp
      try go_step
      go_meet
      exact (by
        obtain ⟨t1, t2⟩ := Two.sets (HT.out.keep hb16) HG.out (.bool D1.below) (.slice A5 (nl D1.n) c5) (.int .i64 (D1.scale : Int)) (.bool D2.below) (.slice A6 (nl D2.n) c6) (.int .i64 (D2.scale : Int))
        have hr := HRes.out.below hb16
        exact Lib.hid ⟨⟨_, _, _, _, t1, t2 _ _ (hn5.keep hb6), t2 _ _ hn6⟩, ((set3_heap _ (g + 1) _ _ _ (g + 1 + 1) (by omega)).trans (set3_heap _ g _ _ _ (g + 1 + 1) (by omega))).trans hr⟩)
  case rest =>
  clear HT HN1 HN2 HC1 HC2 HW1 ka0 ka1 ka2 kaf kb0 kb1 kb2 kbf hgl hgl2 HRes
  obtain ⟨⟨A5, c5, A6, c6, ht2, h5, h6⟩, hres⟩ := hcut.out
  obtain ⟨ka0, ka1, ka2, kaf⟩ := ht2.a.cells
  obtain ⟨kb0, kb1, kb2, kbf⟩ := ht2.b.cells
  have H5 := Lib.hid h5
  have H6 := Lib.hid h6
  have HB := Lib.hid ht2.below
  have HR := Lib.hid hres
  have HBn := Lib.hid (show w.heap.size ≤ g + 1 + 1 by rw [HG.out]; omega)
  obtain ⟨b1, n1, s1⟩ := D1
  obtain ⟨b2, n2, s2⟩ := D2
  dsimp only at *
  have hga := ht2.a.lt
  have hgb := ht2.b.lt
  have HT2 := Lib.hid ht2
  clear ht2 h5 h6 hcut hres
  have hce := HCE.out
  clear HCE
  by_cases hbe : b1 = b2
  · subst hbe
    rw [if_pos rfl] at hce
    have hbb : (b1 == b1) = true := by simp
    have HCl := Lib.hid (fun v W (h : DecV W v ⟨b1, n1 + n2, M⟩) => (hce ▸ clean_any v ⟨b1, n1 + n2, M⟩ W h : Calls Tryz.prog 35 #[v] W (RetD D W)))
    clear hce kb2 kbf kaf ka2 HT2
    go_upto_region 1 with fail
    go_upto_region 1 with fail
    go_region_with (first | (have hzz := hb5; clear hzz; go_at_call 35; refine (HCl.out _ _ ⟨_, rfl, hr⟩).mono ?_; rintro x w6 ⟨v6, rfl, ⟨nv6, rfl, hn6⟩, hb6⟩; obtain ⟨A7, c7, rfl, _, _⟩ := RL.form hn6; have hb16 : Below wc.heap.size wc w6 := hb15.trans (hb6.mono (Below.size hb15)); obtain ⟨mr0, mr1, mr2, mrf⟩ := (HR.out.below hb16).cells) | (go_at_call 34; refine (plus_any _ _ n1 n2 _ H5.out.drew H6.out.drew (by omega) (by omega)).mono ?_; rintro x w5 ⟨r, rfl, hr, hb5⟩; obtain ⟨A8, c8, rfl, _, _⟩ := RL.form hr; have hb15 : Below wc.heap.size wc w5 := (below_drewN (Below.refl _ wc) 1).trans hb5; have la0 := (hb15.cell (p := ⟨g, 0, none⟩) hga).trans ka0))
    all_goals
      have HF := Lib.hid (ret3 (w0 := w) (d := D) (HR.out.below hb16) (HR.out.below hb16).noU hn6 (HB.out.trans (hb16.mono HB.out.size)) HBn.out rfl)
      clear hn6 hb6 hb16 hr hb5 hb15 la0
      go_simp
      try go_step
      go_wp2_with fail
      obtain ⟨z0, z1, z2, _⟩ := HF.out.1.cells
      exact bodyPost_ret (v := .agg (dcs D.below (.slice A7 (nl D.n) c7) D.scale)) (by simp [results, Tryz.results19, go_sem, z0, z1, z2]) rfl HF.out.2
  · rw [if_neg hbe] at hce
    have hbb : (b1 == b2) = false := by simpa using hbe
    have HBE := Lib.hid hbe
    have HCE := Lib.hid hce
    clear hce hbe
    go_wp2_with fail
    refine (compare_any _ _ n1 n2 _ H5.out H6.out (by omega) (by omega)).mono ?_
    rintro x w7 ⟨k, q, rfl, hk1, hk2, hw7⟩
    have hb7 := below_of_drewN hw7
    have HT7 := Lib.hid (HT2.out.keep hb7)
    have HR7 := Lib.hid (HR.out.below hb7)
    have H57 := Lib.hid (H5.out.keep hb7)
    have H67 := Lib.hid (H6.out.keep hb7)
    clear ka0 ka1 ka2 kaf kb0 kb1 kb2 kbf hw7 hb7 hga hgb HB HR HT2 H5 H6 hk2 hbb
    obtain ⟨ka0, ka1, ka2, kaf⟩ := HT7.out.a.cells
    obtain ⟨kb0, kb1, kb2, kbf⟩ := HT7.out.b.cells
    go_upto_if 37 with fail
    go_cut [] (fun wx => Hid (∃ E1 E2, TwoR w wx g E1 E2 ∧ E2.n ≤ E1.n ∧ D = Dec.clean ⟨E1.below, E1.n - E2.n, M⟩ ∧ nl E1.n ≤ 2000))
    case first =>
      by_cases hlt : n1 < n2
      · have hk : k < 0 := hk1.2 hlt
        have HX := Lib.hid (show D = Dec.clean ⟨b2, n2 - n1, M⟩ by rw [HCE.out, if_pos hlt])
        have HLt := Lib.hid hlt
        clear hk1 hlt
        go_wp2_with fail
        go_meet
        exact (by
          obtain ⟨t1, t2⟩ := Two.sets HT7.out HG.out (.bool b2) (.slice A6 (nl n2) c6) (.int .i64 (s2 : Int)) (.bool b1) (.slice A5 (nl n1) c5) (.int .i64 (s1 : Int))
          exact Lib.hid ⟨⟨b2, n2, s2⟩, ⟨b1, n1, s1⟩, ⟨⟨_, _, _, _, t1, t2 _ _ H67.out, t2 _ _ H57.out⟩, ((set3_heap _ (g + 1) _ _ _ (g + 1 + 1) (by omega)).trans (set3_heap _ g _ _ _ (g + 1 + 1) (by omega))).trans HR7.out⟩, Nat.le_of_lt HLt.out, HX.out, hc2⟩)
      · have hk : ¬ k < 0 := fun h => hlt (hk1.1 h)
        have HX := Lib.hid (show D = Dec.clean ⟨b1, n1 - n2, M⟩ by rw [HCE.out, if_neg hlt])
        have HLt := Lib.hid hlt
        clear hk1 hlt
        go_wp2_with fail
        go_meet
        exact Lib.hid ⟨⟨b1, n1, s1⟩, ⟨b2, n2, s2⟩, ⟨⟨_, _, _, _, HT7.out, H57.out, H67.out⟩, HR7.out⟩, by have := HLt.out; dsimp only; omega, HX.out, hc1⟩
    case rest =>
    clear HCE HT7 HR7 H57 H67 ka0 ka1 ka2 kaf kb0 kb1 kb2 kbf hk1 HBE hc1 hc2
    rename World => wd
    obtain ⟨E1, E2, ⟨⟨A5, c5, A6, c6, ht2, h5, h6⟩, hres⟩, hle, hce, hc1⟩ := hcut.out
    obtain ⟨ka0, ka1, ka2, kaf⟩ := ht2.a.cells
    obtain ⟨kb0, kb1, kb2, kbf⟩ := ht2.b.cells
    have H5 := Lib.hid h5
    have H6 := Lib.hid h6
    have HB := Lib.hid ht2.below
    have HR := Lib.hid hres
    have hga := ht2.a.lt
    have hgb := ht2.b.lt
    obtain ⟨b1, n1, s1⟩ := E1
    obtain ⟨b2, n2, s2⟩ := E2
    dsimp only at *
    have HCl := Lib.hid (fun v W (h : DecV W v ⟨b1, n1 - n2, M⟩) => (hce ▸ clean_any v ⟨b1, n1 - n2, M⟩ W h : Calls Tryz.prog 35 #[v] W (RetD D W)))
    clear hce kb0 kb2 kbf kaf ka2 ht2 h5 h6 hres hcut
    go_upto_region 1 with fail
    go_region_with (first | (have hzz := hb5; clear hzz; go_at_call 35; refine (HCl.out _ _ ⟨_, rfl, hr⟩).mono ?_; rintro x w6 ⟨v6, rfl, ⟨nv6, rfl, hn6⟩, hb6⟩; obtain ⟨A7, c7, rfl, _, _⟩ := RL.form hn6; have hb16 : Below wd.heap.size wd w6 := hb15.trans (hb6.mono (Below.size hb15)); obtain ⟨mr0, mr1, mr2, mrf⟩ := (HR.out.below hb16).cells) | (go_at_call 37; refine (minus_any _ _ n1 n2 _ H5.out.drew H6.out.drew (by omega) hle).mono ?_; rintro x w5 ⟨r, rfl, hr, hb5⟩; obtain ⟨A8, c8, rfl, _, _⟩ := RL.form hr; have hb15 : Below wd.heap.size wd w5 := (below_drewN (Below.refl _ wd) 1).trans hb5; have la0 := (hb15.cell (p := ⟨g, 0, none⟩) hga).trans ka0))
    all_goals
      have HF := Lib.hid (ret3 (w0 := w) (d := D) (HR.out.below hb16) (HR.out.below hb16).noU hn6 (HB.out.trans (hb16.mono HB.out.size)) HBn.out rfl)
      clear hn6 hb6 hb16 hr hb5 hb15 la0
      go_simp
      try go_step
      go_wp2_with fail
      obtain ⟨z0, z1, z2, _⟩ := HF.out.1.cells
      exact bodyPost_ret (v := .agg (dcs D.below (.slice A7 (nl D.n) c7) D.scale)) (by simp [results, Tryz.results19, go_sem, z0, z1, z2]) rfl HF.out.2
end Go.Proofs.YthodlgjfmddemaaGreatDoor.Rk
