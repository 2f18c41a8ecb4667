/- TopReckoned: its walk. -/
import Derived.Test.YthodlgjfmddemaaGreatDoorRkP
namespace Go.Proofs.YthodlgjfmddemaaGreatDoor.Rk
open Go.RowKit

def YesP (w : World) (e : Ending) (w' : World) : Prop := e = .returned (.bool true) ∧ Below w.heap.size w w'
set_option maxRecDepth 100000 in
set_option maxHeartbeats 6400000 in
theorem reckoned_any (a b : List UInt8) (sc : Int) (w : World) (hp : Pow w) (ha : a.length ≤ 140737488355328) (hb : b.length ≤ 140737488355328) :
    Calls Tryz.prog 3 #[.string (toB a), .string (toB b), .int .i64 sc] w (YesP w) := by
  have HP := Lib.hid (fun W (h : Below w.heap.size w W) => hp.keep h)
  have HA := Lib.hid ha
  have HB := Lib.hid hb
  have HY := Lib.hid (fun W (h : Below w.heap.size w W) => (show YesP w (.returned (.bool true)) W from ⟨rfl, h⟩))
  have HW := Lib.hid (Below.refl w.heap.size w)
  have hsb := toB_size b
  have hs0 : (⟨#[]⟩ : ByteArray) = toB [] := rfl
  have HS0 := Lib.hid hs0
  generalize YesP w = Y at *
  clear hp ha hb hs0
  go_enter Tryz.func3, Tryz.ntmps3
  go_wp2_with fail
  refine (landed_any _).mono ?_
  rintro e w1 ⟨rfl, hb1⟩
  have HB1 := Lib.hid hb1
  clear hb1
  go_wp2_with fail
  refine (quotT_any a b sc _ (HP.out _ HB1.out) HA.out HB.out).mono ?_
  rintro e w2 ⟨sq, sr, k, rfl, hb2, hk⟩
  have HB2 := Lib.hid (HB1.out.trans (hb2.mono (Below.size HB1.out)))
  clear hb2
  by_cases hk0 : k = 0
  case neg =>
    have hkb : (k != 0) = true := by simpa using hk0
    have HF := Lib.hid (HY.out _ HB2.out)
    clear hk
    go_wp2_with fail
    exact HF.out
  subst hk0
  obtain ⟨d1, d2, hda, hdb, hz1, hz2, h0, hsc0, hsc1, rfl, hzq, rfl, hzr⟩ := hk rfl
  obtain ⟨s, rfl⟩ : ∃ s : Nat, sc = (s : Int) := ⟨sc.toNat, by omega⟩
  rw [Int.toNat_natCast] at *
  have HFst := Lib.hid (plain_first hda hdb hz1 hz2 h0 hzq hzr)
  have hlq : (d1.quotient d2 s).text.length ≤ 1000 := by have := text_len (d1.quotient d2 s); omega
  have hlr : (d1.rest d2 s).text.length ≤ 1000 := by have := text_len (d1.rest d2 s); omega
  dsimp only at HFst
  generalize (d1.quotient d2 s).text = q at *
  generalize (d1.rest d2 s).text = r at *
  have HLq := Lib.hid hlq
  have HLr := Lib.hid hlr
  have hsq := toB_size q
  have HDa := Lib.hid hda
  have HDz := Lib.hid hz1
  have HT1 := Lib.hid (fun W (h : Below w.heap.size w W) => times2_any q b 40 W (HP.out W h) (by omega) HB.out)
  unfold ToldP at HT1
  clear hk hda hdb hz1 hz2 h0 hsc0 hsc1 hzq hzr hlq hlr
  go_wp2_with fail
  refine (HT1.out _ HB2.out).mono ?_
  rintro e w3 ⟨rfl, hb3⟩
  have HB3 := Lib.hid (HB2.out.trans (hb3.mono (Below.size HB2.out)))
  clear hb3 HT1
  rcases HFst.out with ht | ⟨p, ht, hlp, hcs⟩
  · rw [ht]
    have HF := Lib.hid (HY.out _ HB3.out)
    clear ht HFst
    dsimp only
    go_wp2_with fail
    exact HF.out
  rw [ht]
  clear ht HFst
  dsimp only
  have HCs := Lib.hid hcs
  have HLp := Lib.hid hlp
  clear hcs hlp
  have e60 : IntKind.i64.wrap ((q.length : Int) + (b.length : Int)) = (q.length : Int) + (b.length : Int) := IntWalk.i64_in _ (by have := HLq.out; have := HB.out; omega)
  by_cases hl : 60 < q.length + b.length
  case pos =>
    have hlz : (q.length : Int) + (b.length : Int) > 60 := by omega
    have HF := Lib.hid (HY.out _ HB3.out)
    clear hl
    go_wp2_with fail
    exact HF.out
  have hlz : ¬ (q.length : Int) + (b.length : Int) > 60 := by omega
  have HNl := Lib.hid hl
  have HC1 := Lib.hid (fun W => stcut_any q W (by have := HLq.out; omega))
  have HC2 := Lib.hid (fun W => stcut_any b W (by have := HB.out; omega))
  unfold CutP at HC1 HC2
  obtain ⟨P1, hP1⟩ : ∃ x, x = (cutDot q).1 := ⟨_, rfl⟩
  obtain ⟨R1, hR1⟩ : ∃ x, x = (cutDot q).2.1 := ⟨_, rfl⟩
  obtain ⟨o1, ho1⟩ : ∃ x, x = (cutDot q).2.2 := ⟨_, rfl⟩
  obtain ⟨P2, hP2⟩ : ∃ x, x = (cutDot b).1 := ⟨_, rfl⟩
  obtain ⟨R2, hR2⟩ : ∃ x, x = (cutDot b).2.1 := ⟨_, rfl⟩
  obtain ⟨o2, ho2⟩ : ∃ x, x = (cutDot b).2.2 := ⟨_, rfl⟩
  rw [← hP1, ← hR1, ← ho1] at HC1
  rw [← hP2, ← hR2, ← ho2] at HC2
  rw [← hR1, ← hR2] at HCs
  have hsR1 := toB_size R1
  have hsR2 := toB_size R2
  clear hP1 hR1 ho1 hP2 hR2 ho2 hl
  go_wp2_with fail
  refine (HC1.out _).mono ?_
  rintro e w4 ⟨rfl, hb4⟩
  have HB4 := Lib.hid (HB3.out.trans (hb4.mono (Below.size HB3.out)))
  clear hb4
  by_cases hq20 : 20 < R1.length
  case pos =>
    have hqz : (R1.length : Int) > 20 := by omega
    have HF := Lib.hid (HY.out _ HB4.out)
    clear hq20
    go_wp2_with fail
    exact HF.out
  have hqz : ¬ (R1.length : Int) > 20 := by omega
  have HNq := Lib.hid hq20
  clear hq20
  go_wp2_with fail
  refine (HC2.out _).mono ?_
  rintro e w5 ⟨rfl, hb5⟩
  have HB5 := Lib.hid (HB4.out.trans (hb5.mono (Below.size HB4.out)))
  clear hb5
  by_cases hb20 : 20 < R2.length
  case pos =>
    have hbz : (R2.length : Int) > 20 := by omega
    have HF := Lib.hid (HY.out _ HB5.out)
    clear hb20
    go_wp2_with fail
    exact HF.out
  have hbz : ¬ (R2.length : Int) > 20 := by omega
  have hcs := HCs.out
  rcases hcs with h | h | h | ⟨t, hadd, hlt, hord⟩
  · exact absurd h HNl.out
  · exact absurd h HNq.out
  · exact absurd h hb20
  have HAd := Lib.hid (fun W (h : Below w.heap.size w W) => add_any p r W (HP.out W h) (by have := HLp.out; omega) (by have := HLr.out; omega))
  have HOr := Lib.hid (fun W (h : Below w.heap.size w W) => order_any t a W (HP.out W h) (by omega) HA.out)
  unfold ToldP at HAd
  unfold OrdP at HOr
  rw [hadd] at HAd
  rw [hord] at HOr
  dsimp only at HAd HOr
  clear hadd hord hlt hb20 HCs
  go_wp2_with fail
  refine (HAd.out _ HB5.out).mono ?_
  rintro e w6 ⟨rfl, hb6⟩
  have HB6 := Lib.hid (HB5.out.trans (hb6.mono (Below.size HB5.out)))
  clear hb6
  go_wp2_with fail
  refine (HOr.out _ HB6.out).mono ?_
  rintro e w7 ⟨rfl, hb7⟩
  have HB7 := Lib.hid (HB6.out.trans (hb7.mono (Below.size HB6.out)))
  clear hb7
  go_wp2_with fail
  refine (rootT_any a (s : Int) _ (HP.out _ HB7.out) HA.out).mono ?_
  rintro e w8 ⟨x, k, rfl, hb8, hk⟩
  have HB8 := Lib.hid (HB7.out.trans (hb8.mono (Below.size HB7.out)))
  clear hb8
  by_cases hk0 : k = 0
  case neg =>
    have hkb : (k != 0) = true := by simpa using hk0
    have HF := Lib.hid (HY.out _ HB8.out)
    clear hk
    go_wp2_with fail
    exact HF.out
  subst hk0
  obtain ⟨d, R, hda, hbl, hz, _, _, hR, rfl, hzx⟩ := hk rfl
  rw [Int.toNat_natCast] at *
  have hsec := plain_second hda hz hbl hR hzx
  dsimp only at hsec
  clear hk hda hbl hz hR hzx
  generalize (Dec.mk false R (max s d.scale)).text = x at *
  obtain ⟨hlx, hsec⟩ := hsec
  have HSec := Lib.hid hsec
  have HT2 := Lib.hid (fun W (h : Below w.heap.size w W) => times2_any x x 40 W (HP.out W h) (by omega) (by omega))
  unfold ToldP at HT2
  clear hsec hlx
  go_wp2_with fail
  refine (HT2.out _ HB8.out).mono ?_
  rintro e w9 ⟨rfl, hb9⟩
  have HB9 := Lib.hid (HB8.out.trans (hb9.mono (Below.size HB8.out)))
  clear hb9 HT2
  rcases HSec.out with ⟨ht, ho⟩ | ⟨p2, n, ht, hl2, ho, hn⟩
  · have HO2 := Lib.hid (fun W (h : Below w.heap.size w W) => order_any [] a W (HP.out W h) (by simp) HA.out)
    unfold OrdP at HO2
    rw [ho] at HO2
    rw [ht]
    dsimp only at HO2 ⊢
    clear ht ho HSec
    go_wp2_with fail
    refine (HO2.out _ HB9.out).mono ?_
    rintro e w10 ⟨rfl, hb10⟩
    have HF := Lib.hid (HY.out _ (HB9.out.trans (hb10.mono (Below.size HB9.out))))
    clear hb10
    go_wp2_with fail
    exact HF.out
  · have HO2 := Lib.hid (fun W (h : Below w.heap.size w W) => order_any p2 a W (HP.out W h) (by omega) HA.out)
    unfold OrdP at HO2
    rw [ho] at HO2
    rw [ht]
    dsimp only at HO2 ⊢
    clear ht ho HSec hl2
    go_wp2_with fail
    refine (HO2.out _ HB9.out).mono ?_
    rintro e w10 ⟨rfl, hb10⟩
    have HF := Lib.hid (HY.out _ (HB9.out.trans (hb10.mono (Below.size HB9.out))))
    clear hb10
    go_wp2_with fail
    exact HF.out
end Go.Proofs.YthodlgjfmddemaaGreatDoor.Rk
