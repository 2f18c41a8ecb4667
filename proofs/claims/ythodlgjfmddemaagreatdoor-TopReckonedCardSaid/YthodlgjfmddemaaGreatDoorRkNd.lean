/- The square root of a text. -/
import Derived.Test.YthodlgjfmddemaaGreatDoorRkN
namespace Go.Proofs.YthodlgjfmddemaaGreatDoor.Rk
open Go.RowKit

def RootT (a : List UInt8) (sc : Int) (w : World) (e : Ending) (w' : World) : Prop := ∃ s k, e = .returned (.tuple #[.string (toB s), .int .i64 k]) ∧ Below w.heap.size w w' ∧
  (k = 0 → ∃ d R, decOf a = some d ∧ d.below = false ∧ d.size ≤ 200 ∧ 0 ≤ sc ∧ sc ≤ 40 ∧ R * R ≤ d.n * 10 ^ (2 * max sc.toNat d.scale - d.scale) ∧ s = (Dec.mk false R (max sc.toNat d.scale)).text ∧ (Dec.mk false R (max sc.toNat d.scale)).size ≤ 200)
theorem root_small {d : Dec} {R k : Nat} (hd : d.size ≤ 200) (hk : k ≤ 40) (h : R * R ≤ d.n * 10 ^ (2 * max k d.scale - d.scale)) : nl R ≤ 10000 ∧ max k d.scale ≤ 10000 := by
  obtain ⟨a1, a2, _⟩ := small_nl hd
  have h1 : R ≤ d.n * 10 ^ (2 * max k d.scale - d.scale) := Nat.le_trans (Nat.le_mul_self R) h
  have h2 := nl_mul a1 (nl_ten (2 * max k d.scale - d.scale))
  exact ⟨Nat.le_trans (nl_mono h1) (by omega), by omega⟩
set_option maxRecDepth 100000 in
set_option maxHeartbeats 6400000 in
theorem rootT_any (a : List UInt8) (sc : Int) (w : World) (hp : Pow w) (ha : a.length ≤ 140737488355328) :
    Calls Tryz.prog 10 #[.string (toB a), .int .i64 sc] w (RootT a sc w) := by
  obtain ⟨w1, hw1⟩ : ∃ w1, w1 = w.alloc (.cells #[.string (toB a)] 9) := ⟨_, rfl⟩
  have hb1 : Below w.heap.size w w1 := by rw [hw1]; exact (Below.refl _ _).alloc (Nat.le_refl _) _
  obtain ⟨g0, hg0⟩ : ∃ g0, g0 = w.heap.size := ⟨_, rfl⟩
  have HDc := Lib.hid (decimals_any [a] sc (.slice (some ⟨g0, 0, none⟩) 1 1) w1 (by rw [hw1, hg0]; exact SL.one _ _ _) (hp.keep hb1) (fun t ht => by
    rw [List.mem_singleton.1 ht]; exact ha) (by simp))
  have HP := Lib.hid (hp.keep hb1)
  obtain ⟨k, hk⟩ : ∃ k, k = decErr [a] sc := ⟨_, rfl⟩
  have HFail := Lib.hid (fun W (j : Int) (h : Below w1.heap.size w1 W) (h0 : ¬ j = 0) => (show RootT a sc w (.returned (.tuple #[.string ⟨#[]⟩, .int .i64 j])) W from
    ⟨[], j, rfl, hb1.trans (h.mono (Below.size hb1)), fun h => absurd h h0⟩))
  have HGood := Lib.hid (fun (d : Dec) (R : Nat) (T : List UInt8) (q : Int) W (h : Below w1.heap.size w1 W) (h1 : decOf a = some d) (h2 : d.below = false) (h3 : d.size ≤ 200) (h4 : 0 ≤ sc) (h5 : sc ≤ 40) (h6 : R * R ≤ d.n * 10 ^ (2 * max sc.toNat d.scale - d.scale)) (h7 : (T, q) = told (Dec.mk false R (max sc.toNat d.scale))) => (show RootT a sc w (.returned (.tuple #[.string (toB T), .int .i64 q])) W from
    ⟨T, q, rfl, hb1.trans (h.mono (Below.size hb1)), fun h0 => by
      unfold told at h7
      split at h7
      · injection h7 with _ h8
        rw [h8] at h0
        cases h0
      · injection h7 with h8 _
        exact ⟨d, R, h1, h2, h3, h4, h5, h6, h8, by omega⟩⟩))
  have HSz := Lib.hid (fun (h : k = 0) => err_zero (hk.symm.trans h))
  have HW1 := Lib.hid hw1
  have HG0 := Lib.hid hg0
  unfold DecsP at HDc
  rw [← hk] at HDc
  generalize RootT a sc w = Q at *
  clear hw1 hg0 hb1 hp ha hk
  by_cases hk0 : k = 0
  · subst hk0
    obtain ⟨hsm, hsc0, hsc1⟩ := HSz.out rfl
    obtain ⟨kn, rfl⟩ : ∃ kn : Nat, sc = (kn : Int) := ⟨sc.toNat, by omega⟩
    rw [Int.toNat_natCast] at HGood
    have HSm := Lib.hid hsm
    have HS0 := Lib.hid hsc0
    have HS1 := Lib.hid hsc1
    clear hsm HSz hsc0 hsc1
    go_enter Tryz.func10, Tryz.ntmps10
    go_upto_region 1 with fail
    go_upto_region 4 with (go_at_call 12; rw [← HW1.out, ← HG0.out]; refine HDc.out.mono ?_; rintro e w2 ⟨vo, rfl, hvs, hb2⟩)
    obtain ⟨vs, hvs1, hdl⟩ := hvs (by first | rfl | trivial)
    obtain ⟨g, c, d, n1, rfl, hc, hda, ⟨x0, x1, x2, hn1⟩, hg⟩ := read_one hvs1 hdl
    obtain ⟨A1, c1, rfl, _, _⟩ := RL.form hn1
    obtain ⟨d', e1, hz1⟩ := HSm.out a (by simp)
    rw [hda] at e1
    obtain rfl := Option.some.inj e1
    obtain ⟨s11, s12, _⟩ := small_nl hz1
    have HPw := Lib.hid (HP.out.keep hb2)
    have hl0 : 0 < c := by omega
    have HB2 := Lib.hid hb2
    have HDa := Lib.hid hda
    have HZ := Lib.hid hz1
    cases hbl : d.below with
    | true =>
      have HE := Lib.hid (HFail.out w2 3 hb2 (by decide))
      rw [hbl] at x0
      clear hvs hvs1 hdl hb2 hda e1 hz1 hn1 HSm HGood HDc HP s11 s12 hbl
      go_wp2_with fail
      exact HE.out
    | false =>
      have HRt := Lib.hid (droot_any _ d kn w2 ⟨_, rfl, hn1⟩ HPw.out (by omega) (by omega) (by have := HS1.out; omega))
      have HBl := Lib.hid hbl
      rw [hbl] at x0 HRt
      clear hvs hvs1 hdl hb2 hda e1 hz1 hn1 HSm HDc HP s11 s12 hbl
      go_wp2_with fail
      refine HRt.out.mono ?_
      rintro x w3 ⟨R, ⟨v3, rfl, hv3, hb3⟩, hR⟩
      have hsm := root_small HZ.out (k := kn) (by have := HS1.out; omega) hR
      obtain ⟨r, hr⟩ : ∃ r, r = told ⟨false, R, max kn d.scale⟩ := ⟨_, rfl⟩
      obtain ⟨T, q⟩ := r
      have HTo := Lib.hid (told_any v3 _ w3 hv3 (HPw.out.keep hb3) hsm.1 hsm.2)
      unfold ToldP at HTo
      rw [← hr] at HTo
      have HE := Lib.hid (fun W (h : Below w1.heap.size w1 W) => HGood.out d R T q W h HDa.out HBl.out HZ.out HS0.out HS1.out hR hr)
      have HB3 := Lib.hid (HB2.out.trans (hb3.mono (Below.size HB2.out)))
      clear hv3 hb3 hR hsm hr HGood
      go_wp2_with fail
      refine HTo.out.mono ?_
      rintro x w4 ⟨rfl, hb4⟩
      have HF := Lib.hid (HE.out w4 (HB3.out.trans (hb4.mono (Below.size HB3.out))))
      clear hb4
      go_wp2_with fail
      first | exact HF.out | exact bodyPost_ret (v := .tuple #[.string (toB T), .int .i64 q]) (by simp [results, Tryz.results10, go_sem]) rfl HF.out
  · have hkb : (k != 0) = true := by simpa using hk0
    have hk1 : (k == 0) = false := by simpa using hk0
    have HF := Lib.hid (fun W h => HFail.out W k h hk0)
    clear HSz HGood hk0
    go_enter Tryz.func10, Tryz.ntmps10
    go_upto_region 1 with fail
    go_wp2_with (go_at_call 12; rw [← HW1.out, ← HG0.out]; refine HDc.out.mono ?_; rintro e w2 ⟨vo, rfl, hvs, hb2⟩)
    exact HF.out _ hb2
end Go.Proofs.YthodlgjfmddemaaGreatDoor.Rk
