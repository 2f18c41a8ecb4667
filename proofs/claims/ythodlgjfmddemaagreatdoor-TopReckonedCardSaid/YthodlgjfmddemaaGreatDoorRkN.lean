/- The sum of two texts. -/
import Derived.Test.YthodlgjfmddemaaGreatDoorRkM
namespace Go.Proofs.YthodlgjfmddemaaGreatDoor.Rk
open Go.RowKit

def opAdd (a b : List UInt8) : List UInt8 × Int := if decErr [a, b] 0 = 0 then told ((decD a).plus (decD b)) else ([], decErr [a, b] 0)
def opTimes (a b : List UInt8) (sc : Int) : List UInt8 × Int := if decErr [a, b] sc = 0 then told ((decD a).times (decD b) sc.toNat) else ([], decErr [a, b] sc)
def opOrder (a b : List UInt8) : Int × Int := if decErr [a, b] 0 = 0 then ((decD a).cmp (decD b), 0) else (0, decErr [a, b] 0)
def OrdP (r : Int × Int) (w : World) (e : Ending) (w' : World) : Prop := e = .returned (.tuple #[.int .i64 r.1, .int .i64 r.2]) ∧ Below w.heap.size w w'
theorem decD_of {a : List UInt8} {d : Dec} (h : decOf a = some d) : decD a = d := by unfold decD; rw [h]; rfl
theorem times_small {d e : Dec} {k : Nat} (hd : d.size ≤ 200) (he : e.size ≤ 200) : nl (d.times e k).n ≤ 10000 ∧ (d.times e k).scale ≤ 10000 := by
  obtain ⟨a1, a2, _⟩ := small_nl hd
  obtain ⟨b1, b2, _⟩ := small_nl he
  unfold Dec.times
  have h1 : nl (d.product e).n ≤ 1000 := Nat.le_trans (nl_mul a1 b1) (by omega)
  have h2 := cut_nl (d := d.product e) (s := min (d.scale + e.scale) (max k (max d.scale e.scale))) h1 (by omega)
  rw [cut_scale]
  omega
theorem plus_small {d e : Dec} (hd : d.size ≤ 200) (he : e.size ≤ 200) : nl (d.plus e).n ≤ 10000 ∧ (d.plus e).scale ≤ 10000 := by
  obtain ⟨a1, a2, _⟩ := small_nl hd
  obtain ⟨b1, b2, _⟩ := small_nl he
  have h2 := plus_nl (d := d) (e := e) (by omega) (by omega) (by omega) (by omega)
  rw [(plus_ival d e).2]
  omega
set_option maxRecDepth 100000 in
set_option maxHeartbeats 6400000 in
theorem add_any (a b : List UInt8) (w : World) (hp : Pow w) (ha : a.length ≤ 140737488355328) (hb : b.length ≤ 140737488355328) :
    Calls Tryz.prog 8 #[.string (toB a), .string (toB b)] w (ToldP (opAdd a b) w) := by
  obtain ⟨w1, hw1⟩ : ∃ w1, w1 = w.alloc (.cells #[.string (toB a), .string (toB b)] 9) := ⟨_, rfl⟩
  have hb1 : Below w.heap.size w w1 := by rw [hw1]; exact (Below.refl _ _).alloc (Nat.le_refl _) _
  obtain ⟨g0, hg0⟩ : ∃ g0, g0 = w.heap.size := ⟨_, rfl⟩
  have HDc := Lib.hid (decimals_any [a, b] 0 (.slice (some ⟨g0, 0, none⟩) 2 2) w1 (by rw [hw1, hg0]; exact SL.two _ _ _ _) (hp.keep hb1) (fun t ht => by
    rcases List.mem_cons.1 ht with rfl | ht
    · exact ha
    · rw [List.mem_singleton.1 ht]; exact hb) (by simp))
  have HP := Lib.hid (hp.keep hb1)
  obtain ⟨k, hk⟩ : ∃ k, k = decErr [a, b] 0 := ⟨_, rfl⟩
  have HFail := Lib.hid (fun W (h : Below w1.heap.size w1 W) (h0 : ¬ k = 0) => (show ToldP (opAdd a b) w (.returned (.tuple #[.string ⟨#[]⟩, .int .i64 k])) W from by
    unfold opAdd
    rw [← hk, if_neg h0]
    exact ⟨rfl, hb1.trans (h.mono (Below.size hb1))⟩))
  have HGood := Lib.hid (fun (d1 d2 : Dec) W (h : Below w1.heap.size w1 W) (h0 : k = 0) (h1 : decOf a = some d1) (h2 : decOf b = some d2) => (show ToldP (opAdd a b) w (.returned (.tuple #[.string (toB (told (d1.plus d2)).1), .int .i64 (told (d1.plus d2)).2])) W from by
    unfold opAdd
    rw [← hk, if_pos h0, decD_of h1, decD_of h2]
    exact ⟨rfl, hb1.trans (h.mono (Below.size hb1))⟩))
  have HSz := Lib.hid (fun (h : k = 0) => err_zero (hk.symm.trans h))
  have HW1 := Lib.hid hw1
  have HG0 := Lib.hid hg0
  unfold DecsP at HDc
  rw [← hk] at HDc
  generalize ToldP (opAdd a b) w = Q at *
  clear hw1 hg0 hb1 hp ha hb hk
  by_cases hk0 : k = 0
  · subst hk0
    have HSm := HSz.out rfl
    obtain ⟨hsm, hsc0, hsc1⟩ := HSm
    have HSm := Lib.hid hsm
    clear hsm HSz HFail hsc0
    go_enter Tryz.func8, Tryz.ntmps8
    go_upto_region 1 with fail
    go_wp2_with (go_at_call 12; rw [← HW1.out, ← HG0.out]; refine HDc.out.mono ?_; rintro e w2 ⟨vo, rfl, hvs, hb2⟩; obtain ⟨vs, hvs1, hdl⟩ := hvs rfl; obtain ⟨g, c, d1, n1, d2, n2, rfl, hc, hda, hdb, ⟨x0, x1, x2, hn1⟩, hg, y0, y1, y2, hn2⟩ := read_two hvs1 hdl; obtain ⟨A1, c1, rfl, _, _⟩ := RL.form hn1; obtain ⟨A2, c2, rfl, _, _⟩ := RL.form hn2)
    obtain ⟨d1', e1, hz1⟩ := HSm.out a (by simp)
    rw [hda] at e1
    obtain rfl := Option.some.inj e1
    obtain ⟨d2', e2, hz2⟩ := HSm.out b (by simp)
    rw [hdb] at e2
    obtain rfl := Option.some.inj e2
    obtain ⟨s11, s12, _⟩ := small_nl hz1
    obtain ⟨s21, s22, _⟩ := small_nl hz2
    have HCl := Lib.hid (fun W (h : Below w2.heap.size w2 W) => dplus_any _ _ d1 d2 W ⟨_, rfl, hn1.keep h⟩ ⟨_, rfl, hn2.keep h⟩ (by omega) (by omega) (by omega) (by omega))
    have HPw := Lib.hid (HP.out.keep hb2)
    have HFin := Lib.hid (fun W (h : Below w2.heap.size w2 W) => HGood.out d1 d2 W (hb2.trans (h.mono (Below.size hb2))) (by first | rfl | trivial) hda hdb)
    have HDr := Lib.hid (show Below w2.heap.size w2 w2.drew from below_drewN (Below.refl _ _) 1)
    have hDs := plus_small hz1 hz2
    obtain ⟨D, hD⟩ : ∃ D, D = d1.plus d2 := ⟨_, rfl⟩
    rw [← hD] at HCl HFin hDs
    have HTo := Lib.hid (fun W v (h : Below w2.heap.size w2 W) (hv : DecV W v D) => told_any v D W hv (HPw.out.keep h) hDs.1 hDs.2)
    unfold ToldP at HTo
    clear hD
    have hl1 : 1 < c := by omega
    have hl0 : 0 < c := by omega
    clear hvs hvs1 hdl hb2 hda hdb e1 e2 hz1 hz2 hn1 hn2 HSm HGood HDc HP s11 s12 s21 s22 hsc1
    obtain ⟨r, hr⟩ : ∃ r, r = told D := ⟨_, rfl⟩
    rw [← hr] at HTo HFin
    obtain ⟨T, q⟩ := r
    dsimp only at HTo HFin
    clear hr hDs
    go_region_with (first | (go_at_call 19; refine (HCl.out _ (by first | exact HDr.out | exact Below.refl _ _)).mono ?_; rintro e w3 ⟨v3, rfl, hv3, hb3⟩; have hb3w : Below w2.heap.size w2 w3 := by first | exact hb3 | exact HDr.out.trans (hb3.mono (Below.size HDr.out))) | (go_at_call 16; refine (HTo.out _ v3 hb3w hv3).mono ?_; rintro e w4 ⟨rfl, hb4⟩))
    all_goals
      have HE := Lib.hid (HFin.out _ (hb3w.trans (hb4.mono (Below.size hb3w))))
      clear hb3w hb4 hb3 hv3
      go_wp2_with fail
      first | exact HE.out | exact bodyPost_ret (v := .tuple #[.string (toB T), .int .i64 q]) (by simp [results, Tryz.results8, go_sem]) rfl HE.out
  · have hkb : (k != 0) = true := by simpa using hk0
    have hk1 : (k == 0) = false := by simpa using hk0
    have HF := Lib.hid (fun W h => HFail.out W h hk0)
    have HDc2 := HDc
    clear HSz HGood hk0
    go_enter Tryz.func8, Tryz.ntmps8
    go_upto_region 1 with fail
    go_wp2_with (go_at_call 12; rw [← HW1.out, ← HG0.out]; refine HDc.out.mono ?_; rintro e w2 ⟨vo, rfl, hvs, hb2⟩)
    exact HF.out _ hb2
end Go.Proofs.YthodlgjfmddemaaGreatDoor.Rk
