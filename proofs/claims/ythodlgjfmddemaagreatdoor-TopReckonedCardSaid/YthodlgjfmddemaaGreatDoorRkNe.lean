/- The quotient of two texts, and the rest. -/
import Derived.Test.YthodlgjfmddemaaGreatDoorRkN
namespace Go.Proofs.YthodlgjfmddemaaGreatDoor.Rk
open Go.RowKit

def QuotT (a b : List UInt8) (sc : Int) (w : World) (e : Ending) (w' : World) : Prop := ∃ sq sr k, e = .returned (.tuple #[.string (toB sq), .string (toB sr), .int .i64 k]) ∧ Below w.heap.size w w' ∧
  (k = 0 → ∃ d1 d2, decOf a = some d1 ∧ decOf b = some d2 ∧ d1.size ≤ 200 ∧ d2.size ≤ 200 ∧ d2.n ≠ 0 ∧ 0 ≤ sc ∧ sc ≤ 40 ∧ sq = (d1.quotient d2 sc.toNat).text ∧ (d1.quotient d2 sc.toNat).size ≤ 200 ∧ sr = (d1.rest d2 sc.toNat).text ∧ (d1.rest d2 sc.toNat).size ≤ 200)
theorem quot_small {d e : Dec} {k : Nat} (hd : d.size ≤ 200) (he : e.size ≤ 200) (hk : k ≤ 40) : (nl (d.quotient e k).n ≤ 10000 ∧ (d.quotient e k).scale ≤ 10000) ∧ nl (d.rest e k).n ≤ 10000 ∧ (d.rest e k).scale ≤ 10000 := by
  obtain ⟨a1, a2, _⟩ := small_nl hd
  obtain ⟨b1, b2, _⟩ := small_nl he
  have hqn : (d.quotient e k).n = d.n * 10 ^ (k + e.scale) / (e.n * 10 ^ d.scale) := rfl
  have hqs : (d.quotient e k).scale = k := rfl
  have h1 : nl (d.quotient e k).n ≤ 100 := by
    rw [hqn]
    exact nl_div (Nat.le_trans (nl_mul a1 (nl_ten (k + e.scale))) (by omega))
  have hp : nl (((d.quotient e k).product e).neg).n ≤ 1000 := Nat.le_trans (nl_mul h1 b1) (by omega)
  have hps : (((d.quotient e k).product e).neg).scale = k + e.scale := rfl
  have hpl := plus_nl (d := d) (e := ((d.quotient e k).product e).neg) (by omega) hp (by omega) (by rw [hps]; omega)
  have hpls := (plus_ival d ((d.quotient e k).product e).neg).2
  refine ⟨⟨by omega, by omega⟩, ?_, ?_⟩
  · unfold Dec.rest
    rw [cut_n (by rw [hpls, hps]; exact Nat.le_refl _), hpls, hps, Nat.sub_self, Nat.pow_zero, Nat.mul_one]
    omega
  · unfold Dec.rest
    rw [cut_scale]
    omega
/-- two decimals lie in two blocks of their own -/
structure QR (w2 : World) (q r : Dec) (vq vr : Value) (k1 k2 : Nat) (W : World) : Prop where
  b1 : B3 W k1 (.bool q.below) vq (.int .i64 (q.scale : Int))
  b2 : B3 W k2 (.bool r.below) vr (.int .i64 (r.scale : Int))
  n1 : NL W vq q.n
  n2 : NL W vr r.n
  below : Below w2.heap.size w2 W
abbrev Zc : Obj := .cells #[.bool false, .slice none 0 0, .int .i64 0] 48
abbrev Dc (d : Dec) (v : Value) : Obj := .cells #[.bool d.below, v, .int .i64 (d.scale : Int)] 48
theorem qrA {w2 w3 : World} {q r : Dec} {vq vr : Value} (hq : NL w3 vq q.n) (hr : NL w3 vr r.n) (hb : Below w2.heap.size w2 w3) : QR w2 q r vq vr w3.heap.size (w3.heap.size + 1) ((w3.alloc (Dc q vq)).alloc (Dc r vr)) := by
  have hb1 := box1 w3 (.bool q.below) vq (.int .i64 (q.scale : Int))
  have hb2 := box1 (w3.alloc (Dc q vq)) (.bool r.below) vr (.int .i64 (r.scale : Int))
  have h2 := B3.new (w3.alloc (Dc q vq)) (.bool r.below) vr (.int .i64 (r.scale : Int))
  rw [show (w3.alloc (Dc q vq)).heap.size = w3.heap.size + 1 by simp] at h2
  exact ⟨(B3.new w3 _ _ _).alloc _, h2, (hq.keep hb1).keep hb2, (hr.keep hb1).keep hb2, (hb.trans (hb1.mono hb.size)).trans (hb2.mono (hb.trans (hb1.mono hb.size)).size)⟩
theorem qrS {w2 W : World} {q r : Dec} {vq vr : Value} {k1 k2 : Nat} (h : QR w2 q r vq vr k1 k2 W) : QR w2 r q vr vq k2 k1 W := ⟨h.b2, h.b1, h.n2, h.n1, h.below⟩
theorem qrC {w2 w3 : World} {q r : Dec} {vq vr : Value} {k : Nat} (hq : NL w3 vq q.n) (hr : NL w3 vr r.n) (hb : Below w2.heap.size w2 w3) (hz : B3 w3 k (.bool false) (.slice none 0 0) (.int .i64 0)) (hk : w2.heap.size ≤ k) : QR w2 q r vq vr k w3.heap.size ((set3 w3 k (.bool q.below) vq (.int .i64 (q.scale : Int))).alloc (Dc r vr)) := by
  have hb0 := below_set3 hb hk (.bool q.below) vq (.int .i64 (q.scale : Int))
  have hb1 := box1 (set3 w3 k (.bool q.below) vq (.int .i64 (q.scale : Int))) (.bool r.below) vr (.int .i64 (r.scale : Int))
  have h2 := B3.new (set3 w3 k (.bool q.below) vq (.int .i64 (q.scale : Int))) (.bool r.below) vr (.int .i64 (r.scale : Int))
  rw [set3_size] at h2
  exact ⟨(hz.set3 _ _ _).alloc _, h2, (hq.set3 hz.noU).keep hb1, (hr.set3 hz.noU).keep hb1, hb0.trans (hb1.mono hb0.size)⟩
theorem qrD {w2 w3 : World} {q r : Dec} {vq vr : Value} {k : Nat} (hq : NL w3 vq q.n) (hr : NL w3 vr r.n) (hb : Below w2.heap.size w2 w3) (hz : B3 w3 k (.bool false) (.slice none 0 0) (.int .i64 0)) (hk : w2.heap.size ≤ k) : QR w2 q r vq vr w3.heap.size k (set3 (w3.alloc (Dc q vq)) k (.bool r.below) vr (.int .i64 (r.scale : Int))) := by
  have hb1 := box1 w3 (.bool q.below) vq (.int .i64 (q.scale : Int))
  have hz1 := hz.alloc (Dc q vq)
  have hlt := hz.lt
  exact ⟨(set3_heap _ k _ _ _ w3.heap.size (by omega)).trans (B3.new w3 _ _ _), hz1.set3 _ _ _, (hq.keep hb1).set3 hz1.noU, (hr.keep hb1).set3 hz1.noU, below_set3 (hb.trans (hb1.mono hb.size)) hk _ _ _⟩
theorem qrE {w2 w3 : World} {q r : Dec} {vq vr : Value} {k1 k2 : Nat} (hq : NL w3 vq q.n) (hr : NL w3 vr r.n) (hb : Below w2.heap.size w2 w3) (hz1 : B3 w3 k1 (.bool false) (.slice none 0 0) (.int .i64 0)) (hz2 : B3 w3 k2 (.bool false) (.slice none 0 0) (.int .i64 0)) (hk1 : w2.heap.size ≤ k1) (hk2 : w2.heap.size ≤ k2) (hne : k2 ≠ k1) :
    QR w2 q r vq vr k1 k2 (set3 (set3 w3 k1 (.bool q.below) vq (.int .i64 (q.scale : Int))) k2 (.bool r.below) vr (.int .i64 (r.scale : Int))) := by
  have h2 : B3 (set3 w3 k1 (.bool q.below) vq (.int .i64 (q.scale : Int))) k2 (.bool false) (.slice none 0 0) (.int .i64 0) := (set3_heap w3 k1 _ _ _ k2 hne).trans hz2
  exact ⟨(set3_heap _ k2 _ _ _ k1 (fun e => hne e.symm)).trans (hz1.set3 _ _ _), h2.set3 _ _ _, (hq.set3 hz1.noU).set3 h2.noU, (hr.set3 hz1.noU).set3 h2.noU, below_set3 (below_set3 hb hk1 _ _ _) hk2 _ _ _⟩
set_option maxRecDepth 100000 in
set_option maxHeartbeats 6400000 in
theorem quotT_any (a b : List UInt8) (sc : Int) (w : World) (hp : Pow w) (ha : a.length ≤ 140737488355328) (hb : b.length ≤ 140737488355328) :
    Calls Tryz.prog 5 #[.string (toB a), .string (toB b), .int .i64 sc] w (QuotT a b sc w) := by
  obtain ⟨w1, hw1⟩ : ∃ w1, w1 = w.alloc (.cells #[.string (toB a), .string (toB b)] 9) := ⟨_, rfl⟩
  have hb1 : Below w.heap.size w w1 := by rw [hw1]; exact (Below.refl _ _).alloc (Nat.le_refl _) _
  obtain ⟨g0, hg0⟩ : ∃ g0, g0 = w.heap.size := ⟨_, rfl⟩
  have HDc := Lib.hid (decimals_any [a, b] sc (.slice (some ⟨g0, 0, none⟩) 2 2) w1 (by rw [hw1, hg0]; exact SL.two _ _ _ _) (hp.keep hb1) (fun t ht => by
    rcases List.mem_cons.1 ht with rfl | ht
    · exact ha
    · rw [List.mem_singleton.1 ht]; exact hb) (by simp))
  have HP := Lib.hid (hp.keep hb1)
  obtain ⟨k, hk⟩ : ∃ k, k = decErr [a, b] sc := ⟨_, rfl⟩
  have HFail := Lib.hid (fun W (j : Int) (h : Below w1.heap.size w1 W) (h0 : ¬ j = 0) => (show QuotT a b sc w (.returned (.tuple #[.string ⟨#[]⟩, .string ⟨#[]⟩, .int .i64 j])) W from
    ⟨[], [], j, rfl, hb1.trans (h.mono (Below.size hb1)), fun h => absurd h h0⟩))
  have HGood := Lib.hid (fun (d1 d2 : Dec) W (h : Below w1.heap.size w1 W) (h1 : decOf a = some d1) (h2 : decOf b = some d2) (h3 : d1.size ≤ 200) (h4 : d2.size ≤ 200) (h5 : d2.n ≠ 0) (h6 : 0 ≤ sc) (h7 : sc ≤ 40) (h8 : (d1.quotient d2 sc.toNat).size ≤ 200) (h9 : (d1.rest d2 sc.toNat).size ≤ 200) => (show QuotT a b sc w (.returned (.tuple #[.string (toB (d1.quotient d2 sc.toNat).text), .string (toB (d1.rest d2 sc.toNat).text), .int .i64 0])) W from
    ⟨_, _, 0, rfl, hb1.trans (h.mono (Below.size hb1)), fun _ => ⟨d1, d2, h1, h2, h3, h4, h5, h6, h7, rfl, h8, rfl, h9⟩⟩))
  have HSz := Lib.hid (fun (h : k = 0) => err_zero (hk.symm.trans h))
  have HW1 := Lib.hid hw1
  have HG0 := Lib.hid hg0
  unfold DecsP at HDc
  rw [← hk] at HDc
  generalize QuotT a b sc w = Q at *
  clear hw1 hg0 hb1 hp ha hb hk
  by_cases hk0 : k = 0
  · subst hk0
    obtain ⟨hsm, hsc0, hsc1⟩ := HSz.out rfl
    obtain ⟨kn, rfl⟩ : ∃ kn : Nat, sc = (kn : Int) := ⟨sc.toNat, by omega⟩
    rw [Int.toNat_natCast] at HGood
    have HSm := Lib.hid hsm
    have HS0 := Lib.hid hsc0
    have HS1 := Lib.hid hsc1
    clear hsm HSz hsc0 hsc1
    go_enter Tryz.func5, Tryz.ntmps5
    go_upto_region 1 with fail
    go_upto_region 4 with (go_at_call 12; rw [← HW1.out, ← HG0.out]; refine HDc.out.mono ?_; rintro e w2 ⟨vo, rfl, hvs, hb2⟩)
    obtain ⟨vs, hvs1, hdl⟩ := hvs (by first | rfl | trivial)
    obtain ⟨g, c, d1, n1, d2, n2, rfl, hc, hda, hdb, ⟨x0, x1, x2, hn1⟩, hg, y0, y1, y2, hn2⟩ := read_two hvs1 hdl
    obtain ⟨A1, c1, rfl, _, _⟩ := RL.form hn1
    obtain ⟨A2, c2, rfl, _, _⟩ := RL.form hn2
    obtain ⟨d1', e1, hz1⟩ := HSm.out a (by simp)
    rw [hda] at e1
    obtain rfl := Option.some.inj e1
    obtain ⟨d2', e2, hz2⟩ := HSm.out b (by simp)
    rw [hdb] at e2
    obtain rfl := Option.some.inj e2
    obtain ⟨s11, s12, _⟩ := small_nl hz1
    obtain ⟨s21, s22, _⟩ := small_nl hz2
    have HPw := Lib.hid (HP.out.keep hb2)
    have hl0 : 0 < c := by omega
    have hl1 : 1 < c := by omega
    have HB2 := Lib.hid hb2
    have HDa := Lib.hid hda
    have HDb := Lib.hid hdb
    have HZ1 := Lib.hid hz1
    have HZ2 := Lib.hid hz2
    have hkn : kn ≤ 40 := by have := HS1.out; omega
    by_cases h0 : d2.n = 0
    · have HE := Lib.hid (HFail.out w2 10 hb2 (by decide))
      rw [h0, nl_zero] at y1
      clear hvs hvs1 hdl hb2 hda hdb e1 e2 hz1 hz2 hn1 hn2 HSm HGood HDc HP s11 s12 s21 s22 h0 hkn
      go_wp2_with fail
      exact bodyPost_ret (v := .tuple #[.string ⟨#[]⟩, .string ⟨#[]⟩, .int .i64 10]) (by simp [results, Tryz.results5, go_sem]) rfl HE.out
    · have hnz : ¬ nl d2.n = 0 := fun h => h0 (nl_eq_zero.1 h)
      have hnzz : ¬ ((nl d2.n : Nat) : Int) = 0 := by omega
      have hnb : (((nl d2.n : Nat) : Int) == 0) = false := beq_eq_false_iff_ne.2 hnzz
      have HCl := Lib.hid (fun W (h : Below w2.heap.size w2 W) => divided_any _ _ d1 d2 kn W ⟨_, rfl, hn1.keep h⟩ ⟨_, rfl, hn2.keep h⟩ (by omega) (by omega) (by omega) (by omega) (by omega) h0)
      have HDr := Lib.hid (show Below w2.heap.size w2 w2.drew from below_drewN (Below.refl _ _) 1)
      have HH0 := Lib.hid h0
      have HSml := Lib.hid (quot_small hz1 hz2 hkn)
      have HKn := Lib.hid hkn
      clear hvs hvs1 hdl hb2 hda hdb e1 e2 hz1 hz2 hn1 hn2 HSm HDc HP s11 s12 s21 s22 h0 hkn
      go_upto_region 6 with fail
      go_cut [11, 12] (fun s11 s12 wx => ∃ (k1 k2 : Nat) (vq vr : Value), s11 = .pointer (some ⟨k1, 0, none⟩) ∧ s12 = .pointer (some ⟨k2, 0, none⟩) ∧ Hid (QR w2 (d1.quotient d2 kn) (d1.rest d2 kn) vq vr k1 k2 wx))
      case first =>
        try clear HGood; try clear HFail; try clear HSml; try clear HPw; try clear HB2; try clear HDa; try clear HDb; try clear HZ1; try clear HZ2; try clear HH0; try clear HKn; try clear HS0; try clear HS1; try clear HW1; try clear HG0; try clear hnz; try clear hnzz; try clear hnb; try clear hc
        obtain ⟨z, hz⟩ : ∃ z, z = w2.heap.size := ⟨_, rfl⟩
        have hV1 : Below w2.heap.size w2 (w2.alloc (.cells #[.bool false, .slice none 0 0, .int .i64 0] 48)).drew := (box1 w2 _ _ _).drew
        have hV2 : Below w2.heap.size w2 ((w2.alloc (.cells #[.bool false, .slice none 0 0, .int .i64 0] 48)).alloc (.cells #[.bool false, .slice none 0 0, .int .i64 0] 48)).drew := ((box1 w2 _ _ _).alloc (by simp) _).drew
        have HV1 := Lib.hid hV1
        have HV2 := Lib.hid hV2
        have HU1 := Lib.hid (B3.new w2 (.bool false) (.slice none 0 0) (.int .i64 0))
        have HU2 := Lib.hid (B3.new (w2.alloc (.cells #[.bool false, .slice none 0 0, .int .i64 0] 48)) (.bool false) (.slice none 0 0) (.int .i64 0))
        rw [show (w2.alloc (.cells #[.bool false, .slice none 0 0, .int .i64 0] 48)).heap.size = w2.heap.size + 1 by simp] at HU2
        have HU3 := Lib.hid (HU1.out.alloc (.cells #[.bool false, .slice none 0 0, .int .i64 0] 48))
        clear hV1 hV2 hz
        have HW1u := Lib.hid (fun w3 (h : Below (w2.alloc (.cells #[.bool false, .slice none 0 0, .int .i64 0] 48)).drew.heap.size (w2.alloc (.cells #[.bool false, .slice none 0 0, .int .i64 0] 48)).drew w3) => (B3.below (w := (w2.alloc (.cells #[.bool false, .slice none 0 0, .int .i64 0] 48)).drew) HU1.out h : B3 w3 w2.heap.size (.bool false) (.slice none 0 0) (.int .i64 0)))
        have HW2u := Lib.hid (fun w3 (h : Below ((w2.alloc (.cells #[.bool false, .slice none 0 0, .int .i64 0] 48)).alloc (.cells #[.bool false, .slice none 0 0, .int .i64 0] 48)).drew.heap.size ((w2.alloc (.cells #[.bool false, .slice none 0 0, .int .i64 0] 48)).alloc (.cells #[.bool false, .slice none 0 0, .int .i64 0] 48)).drew w3) => (show B3 w3 w2.heap.size (.bool false) (.slice none 0 0) (.int .i64 0) ∧ B3 w3 (w2.heap.size + 1) (.bool false) (.slice none 0 0) (.int .i64 0) from ⟨B3.below (w := ((w2.alloc (.cells #[.bool false, .slice none 0 0, .int .i64 0] 48)).alloc (.cells #[.bool false, .slice none 0 0, .int .i64 0] 48)).drew) HU3.out h, B3.below (w := ((w2.alloc (.cells #[.bool false, .slice none 0 0, .int .i64 0] 48)).alloc (.cells #[.bool false, .slice none 0 0, .int .i64 0] 48)).drew) HU2.out h⟩))
        go_region_with (go_at_call 13; refine (HCl.out _ (by first | with_reducible exact HDr.out | with_reducible exact HV1.out | with_reducible exact HV2.out)).mono ?_; rintro e w3 ⟨vq, vr, rfl, ⟨nq, rfl, hq⟩, ⟨nr, rfl, hr⟩, hb3⟩; obtain ⟨Aq, cq, rfl, _, _⟩ := RL.form hq; obtain ⟨Ar, cr, rfl, _, _⟩ := RL.form hr; first | (have hb3w : Below w2.heap.size w2 w3 := HDr.out.trans ((by with_reducible exact hb3 : Below w2.drew.heap.size w2.drew w3).mono (Below.size HDr.out))) | (have hu1 := HW1u.out w3 (by with_reducible exact hb3); obtain ⟨q0, q1, q2, qf⟩ := hu1.cells; have hlt1 := hu1.lt; have hne1 : ¬ w2.heap.size = w3.heap.size := Nat.ne_of_lt hlt1; have hne1' : ¬ w3.heap.size = w2.heap.size := fun e => hne1 e.symm; obtain ⟨qa0, qa1, qa2, qaf⟩ := (hu1.alloc (.cells #[.bool false, .slice none 0 0, .int .i64 0] 48)).cells; have hb3w : Below w2.heap.size w2 w3 := HV1.out.trans (hb3.mono (Below.size HV1.out))) | (have hu2 := HW2u.out w3 (by with_reducible exact hb3); obtain ⟨q0, q1, q2, qf⟩ := hu2.1.cells; obtain ⟨r0, r1, r2, rf⟩ := hu2.2.cells; have hb3w : Below w2.heap.size w2 w3 := HV2.out.trans (hb3.mono (Below.size HV2.out))))
        all_goals
          go_simp
          try go_step
          go_meet
          first
            | with_reducible exact ⟨_, _, _, _, rfl, rfl, Lib.hid (qrA hq hr hb3w)⟩
            | with_reducible exact ⟨_, _, _, _, rfl, rfl, Lib.hid (qrS (qrA hr hq hb3w))⟩
            | with_reducible exact ⟨_, _, _, _, rfl, rfl, Lib.hid (qrC hq hr hb3w hu1 (Nat.le_refl _))⟩
            | with_reducible exact ⟨_, _, _, _, rfl, rfl, Lib.hid (qrS (qrC hr hq hb3w hu1 (Nat.le_refl _)))⟩
            | with_reducible exact ⟨_, _, _, _, rfl, rfl, Lib.hid (qrD hq hr hb3w hu1 (Nat.le_refl _))⟩
            | with_reducible exact ⟨_, _, _, _, rfl, rfl, Lib.hid (qrE hq hr hb3w hu2.1 hu2.2 (Nat.le_refl _) (by omega) (by omega))⟩
            | with_reducible exact ⟨_, _, _, _, rfl, rfl, Lib.hid (qrE hq hr hb3w hu2.2 hu2.1 (by omega) (Nat.le_refl _) (by omega))⟩
      case rest =>
        obtain ⟨k1, k2, vq, vr, rfl, rfl, HQR⟩ := hcut
        obtain ⟨⟨sq1, sq2⟩, sr1, sr2⟩ := HSml.out
        obtain ⟨q, hq⟩ : ∃ q, q = d1.quotient d2 kn := ⟨_, rfl⟩
        obtain ⟨r, hr⟩ : ∃ r, r = d1.rest d2 kn := ⟨_, rfl⟩
        rw [← hq] at HQR sq1 sq2
        rw [← hr] at HQR sr1 sr2
        have hn1 := HQR.out.n1
        have hn2 := HQR.out.n2
        obtain ⟨Aq, cq, rfl, _, _⟩ := RL.form hn1
        obtain ⟨Ar, cr, rfl, _, _⟩ := RL.form hn2
        have hlq := digs_nl sq1
        have hlr := digs_nl sr1
        have HS1q := Lib.hid (dsize_any _ q wc ⟨_, rfl, hn1⟩ (HPw.out.keep HQR.out.below) (by omega) (by omega) (by omega))
        have HS2r := Lib.hid (fun W (h : Below wc.heap.size wc W) => dsize_any _ r W ⟨_, rfl, hn2.keep h⟩ ((HPw.out.keep HQR.out.below).keep h) (by omega) (by omega) (by omega))
        have HT1 := Lib.hid (fun W (h : Below wc.heap.size wc W) (hz : q.size ≤ 200) => dtext_any _ q W ⟨_, rfl, hn1.keep h⟩ ((HPw.out.keep HQR.out.below).keep h) (by omega))
        have HT2 := Lib.hid (fun W (h : Below wc.heap.size wc W) (hz : r.size ≤ 200) => dtext_any _ r W ⟨_, rfl, hn2.keep h⟩ ((HPw.out.keep HQR.out.below).keep h) (by omega))
        have HBc := Lib.hid (HB2.out.trans (HQR.out.below.mono (Below.size HB2.out)))
        have HF2 := Lib.hid (fun W (h : Below wc.heap.size wc W) => HFail.out W 2 (HBc.out.trans (h.mono (Below.size HBc.out))) (by decide))
        have HGd := Lib.hid (fun W (h : Below wc.heap.size wc W) (z1 : q.size ≤ 200) (z2 : r.size ≤ 200) => (show Q (.returned (.tuple #[.string (toB q.text), .string (toB r.text), .int .i64 0])) W from by
          rw [hq, hr]
          exact HGood.out d1 d2 W (HBc.out.trans (h.mono (Below.size HBc.out))) HDa.out HDb.out HZ1.out HZ2.out HH0.out HS0.out HS1.out (by rw [← hq]; exact z1) (by rw [← hr]; exact z2)))
        obtain ⟨a0, a1, a2, af⟩ := HQR.out.b1.cells
        obtain ⟨b0, b1, b2, bf⟩ := HQR.out.b2.cells
        have hkl1 := HQR.out.b1.lt
        have hkl2 := HQR.out.b2.lt
        obtain ⟨zq, hzq⟩ : ∃ zq, zq = q.size := ⟨_, rfl⟩
        obtain ⟨zr, hzr⟩ : ∃ zr, zr = r.size := ⟨_, rfl⟩
        obtain ⟨tq, htq⟩ : ∃ tq, tq = q.text := ⟨_, rfl⟩
        obtain ⟨tr, htr⟩ : ∃ tr, tr = r.text := ⟨_, rfl⟩
        unfold SizeP at HS1q HS2r
        unfold TextP at HT1 HT2
        rw [← hzq] at HS1q HT1 HGd
        rw [← hzr] at HS2r HT2 HGd
        rw [← htq] at HT1 HGd
        rw [← htr] at HT2 HGd
        clear hq hr hn1 hn2 hlq hlr sq1 sq2 sr1 sr2 hzq hzr htq htr HGood HFail HSml HCl x0 x1 x2 y0 y1 y2 hnz hnzz hnb
        by_cases hb1 : 200 < zq
        · have hbz : (zq : Int) > 200 := by omega
          clear hb1
          go_wp2_with (go_at_call 14; refine HS1q.out.mono ?_; rintro e w5 ⟨rfl, hb5⟩; have hF := HF2.out _ hb5)
          first | exact hF | exact bodyPost_ret (v := .tuple #[.string ⟨#[]⟩, .string ⟨#[]⟩, .int .i64 2]) (by simp [results, Tryz.results5, go_sem]) rfl hF
        · have hbz : ¬ (zq : Int) > 200 := by omega
          have HZq := Lib.hid (Nat.le_of_not_lt hb1)
          clear hb1
          by_cases hb2 : 200 < zr
          · have hbz2 : (zr : Int) > 200 := by omega
            clear hb2
            go_wp2_with (first | (have hxx := hb5; clear hxx; go_at_call 14; refine (HS2r.out _ hb5).mono ?_; rintro e w6 ⟨rfl, hb6⟩; have hF := HF2.out _ (hb5.trans (hb6.mono (Below.size hb5)))) | (go_at_call 14; refine HS1q.out.mono ?_; rintro e w5 ⟨rfl, hb5⟩; obtain ⟨b0', b1', b2', _⟩ := (HQR.out.b2.below hb5).cells))
            first | exact hF | exact bodyPost_ret (v := .tuple #[.string ⟨#[]⟩, .string ⟨#[]⟩, .int .i64 2]) (by simp [results, Tryz.results5, go_sem]) rfl hF
          · have hbz2 : ¬ (zr : Int) > 200 := by omega
            have HZr := Lib.hid (Nat.le_of_not_lt hb2)
            clear hb2
            go_wp2_with (first | (have hxx := hb5; clear hxx; go_at_call 14; refine (HS2r.out _ hb5).mono ?_; rintro e w6 ⟨rfl, hb6⟩; have hb6w : Below wc.heap.size wc w6 := hb5.trans (hb6.mono (Below.size hb5)); obtain ⟨c0, c1', c2', cf⟩ := (HQR.out.b1.below hb6w).cells; obtain ⟨e0, e1', e2', ef⟩ := (HQR.out.b2.below hb6w).cells) | (go_at_call 14; refine HS1q.out.mono ?_; rintro e w5 ⟨rfl, hb5⟩; obtain ⟨b0', b1', b2', _⟩ := (HQR.out.b2.below hb5).cells))
            have HDr6 := Lib.hid (show Below wc.heap.size wc w6.drew from hb6w.trans ((below_drewN (Below.refl _ _) 1).mono (Below.size hb6w)))
            have HB6 := Lib.hid hb6
            clear hb5 hb6 hb6w
            go_region_with (first | (have hxx := hb7w; clear hxx; go_at_call 15; refine (HT2.out _ hb7w HZr.out).mono ?_; rintro e w8 ⟨rfl, hb8⟩; have hF := HGd.out w8 (hb7w.trans (hb8.mono (Below.size hb7w))) HZq.out HZr.out) | (go_at_call 15; refine (HT1.out _ HDr6.out HZq.out).mono ?_; rintro e w7 ⟨rfl, hb7⟩; have hb7w : Below wc.heap.size wc w7 := HDr6.out.trans (hb7.mono (Below.size HDr6.out)); obtain ⟨f0, f1', f2', ff⟩ := (HQR.out.b2.below hb7w).cells))
            all_goals
              have HF := Lib.hid hF
              clear hF hb7 hb7w hb8
              go_wp2_with fail
              first | exact HF.out | exact bodyPost_ret (v := .tuple #[.string (toB tq), .string (toB tr), .int .i64 0]) (by simp [results, Tryz.results5, go_sem]) rfl HF.out
  · have hkb : (k != 0) = true := by simpa using hk0
    have hk1 : (k == 0) = false := by simpa using hk0
    have HF := Lib.hid (fun W h => HFail.out W k h hk0)
    clear HSz HGood hk0
    go_enter Tryz.func5, Tryz.ntmps5
    go_upto_region 1 with fail
    go_wp2_with (go_at_call 12; rw [← HW1.out, ← HG0.out]; refine HDc.out.mono ?_; rintro e w2 ⟨vo, rfl, hvs, hb2⟩)
    exact bodyPost_ret (v := .tuple #[.string ⟨#[]⟩, .string ⟨#[]⟩, .int .i64 k]) (by simp [results, Tryz.results5, go_sem]) rfl (HF.out _ hb2)
end Go.Proofs.YthodlgjfmddemaaGreatDoor.Rk
