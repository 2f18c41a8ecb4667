/- The order of two texts. -/
import Derived.Test.YthodlgjfmddemaaGreatDoorRkN
namespace Go.Proofs.YthodlgjfmddemaaGreatDoor.Rk
open Go.RowKit

set_option maxRecDepth 100000 in
set_option maxHeartbeats 6400000 in
theorem order_any (a b : List UInt8) (w : World) (hp : Pow w) (ha : a.length ≤ 140737488355328) (hb : b.length ≤ 140737488355328) :
    Calls Tryz.prog 9 #[.string (toB a), .string (toB b)] w (OrdP (opOrder a b) w) := by
  obtain ⟨w1, hw1⟩ : ∃ w1, w1 = w.alloc (.cells #[.string (toB a), .string (toB b)] 9) := ⟨_, rfl⟩
  have hb1 : Below w.heap.size w w1 := by rw [hw1]; exact (Below.refl _ _).alloc (Nat.le_refl _) _
  obtain ⟨g0, hg0⟩ : ∃ g0, g0 = w.heap.size := ⟨_, rfl⟩
  have HDc := Lib.hid (decimals_any [a, b] 0 (.slice (some ⟨g0, 0, none⟩) 2 2) w1 (by rw [hw1, hg0]; exact SL.two _ _ _ _) (hp.keep hb1) (fun t ht => by
    rcases List.mem_cons.1 ht with rfl | ht
    · exact ha
    · rw [List.mem_singleton.1 ht]; exact hb) (by simp))
  have HP := Lib.hid (hp.keep hb1)
  obtain ⟨k, hk⟩ : ∃ k, k = decErr [a, b] 0 := ⟨_, rfl⟩
  have HFail := Lib.hid (fun W (h : Below w1.heap.size w1 W) (h0 : ¬ k = 0) => (show OrdP (opOrder a b) w (.returned (.tuple #[.int .i64 0, .int .i64 k])) W from by
    unfold opOrder
    rw [← hk, if_neg h0]
    exact ⟨rfl, hb1.trans (h.mono (Below.size hb1))⟩))
  have HGood := Lib.hid (fun (d1 d2 : Dec) W (h : Below w1.heap.size w1 W) (h0 : k = 0) (h1 : decOf a = some d1) (h2 : decOf b = some d2) => (show OrdP (opOrder a b) w (.returned (.tuple #[.int .i64 (d1.cmp d2), .int .i64 0])) W from by
    unfold opOrder
    rw [← hk, if_pos h0, decD_of h1, decD_of h2]
    exact ⟨rfl, hb1.trans (h.mono (Below.size hb1))⟩))
  have HSz := Lib.hid (fun (h : k = 0) => err_zero (hk.symm.trans h))
  have HW1 := Lib.hid hw1
  have HG0 := Lib.hid hg0
  unfold DecsP at HDc
  rw [← hk] at HDc
  generalize OrdP (opOrder a b) w = Q at *
  clear hw1 hg0 hb1 hp ha hb hk
  by_cases hk0 : k = 0
  · subst hk0
    have HSm := HSz.out rfl
    obtain ⟨hsm, hsc0, hsc1⟩ := HSm
    have HSm := Lib.hid hsm
    clear hsm HSz HFail hsc0
    go_enter Tryz.func9, Tryz.ntmps9
    go_upto_region 1 with fail
    go_wp2_with (go_at_call 12; rw [← HW1.out, ← HG0.out]; refine HDc.out.mono ?_; rintro e w2 ⟨vo, rfl, hvs, hb2⟩; obtain ⟨vs, hvs1, hdl⟩ := hvs rfl; obtain ⟨g, c, d1, n1, d2, n2, rfl, hc, hda, hdb, ⟨x0, x1, x2, hn1⟩, hg, y0, y1, y2, hn2⟩ := read_two hvs1 hdl; obtain ⟨A1, c1, rfl, _, _⟩ := RL.form hn1; obtain ⟨A2, c2, rfl, _, _⟩ := RL.form hn2)
    obtain ⟨d1', e1, hz1⟩ := HSm.out a (by simp)
    rw [hda] at e1
    obtain rfl := Option.some.inj e1
    obtain ⟨d2', e2, hz2⟩ := HSm.out b (by simp)
    rw [hdb] at e2
    obtain rfl := Option.some.inj e2
    obtain ⟨s11, s12, _⟩ := small_nl hz1
    obtain ⟨s21, s22, _⟩ := small_nl hz2
    have HCl := Lib.hid (fun W (h : Below w2.heap.size w2 W) => dcompare_any _ _ d1 d2 W ⟨_, rfl, hn1.keep h⟩ ⟨_, rfl, hn2.keep h⟩ (by omega) (by omega) (by omega) (by omega))
    have HPw := Lib.hid (HP.out.keep hb2)
    have HFin := Lib.hid (fun W (h : Below w2.heap.size w2 W) => HGood.out d1 d2 W (hb2.trans (h.mono (Below.size hb2))) (by first | rfl | trivial) hda hdb)
    have HDr := Lib.hid (show Below w2.heap.size w2 w2.drew from below_drewN (Below.refl _ _) 1)
    have hl1 : 1 < c := by omega
    have hl0 : 0 < c := by omega
    clear hvs hvs1 hdl hb2 hda hdb e1 e2 hz1 hz2 hn1 hn2 HSm HGood HDc HP s11 s12 s21 s22 hsc1
    unfold CmpD at HCl
    obtain ⟨q, hq⟩ : ∃ q, q = d1.cmp d2 := ⟨_, rfl⟩
    rw [← hq] at HCl HFin
    clear hq
    go_region_with (go_at_call 20; refine (HCl.out _ (by first | exact HDr.out | exact Below.refl _ _)).mono ?_; rintro e w3 ⟨rfl, hb3⟩; have hb3w : Below w2.heap.size w2 w3 := by first | exact hb3 | exact HDr.out.trans (hb3.mono (Below.size HDr.out)))
    all_goals
      have HE := Lib.hid (HFin.out _ hb3w)
      clear hb3w hb3
      go_wp2_with fail
      first | exact HE.out | exact bodyPost_ret (v := .tuple #[.int .i64 q, .int .i64 0]) (by simp [results, Tryz.results9, go_sem]) rfl HE.out
  · have hkb : (k != 0) = true := by simpa using hk0
    have hk1 : (k == 0) = false := by simpa using hk0
    have HF := Lib.hid (fun W h => HFail.out W h hk0)
    have HDc2 := HDc
    clear HSz HGood hk0
    go_enter Tryz.func9, Tryz.ntmps9
    go_upto_region 1 with fail
    go_wp2_with (go_at_call 12; rw [← HW1.out, ← HG0.out]; refine HDc.out.mono ?_; rintro e w2 ⟨vo, rfl, hvs, hb2⟩)
    exact HF.out _ hb2
end Go.Proofs.YthodlgjfmddemaaGreatDoor.Rk
