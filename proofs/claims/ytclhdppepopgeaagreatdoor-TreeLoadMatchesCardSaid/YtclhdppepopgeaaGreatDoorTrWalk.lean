/- TreeLoadMatches: the law's walk. -/
import Derived.Test.YtclhdppepopgeaaGreatDoorTfLoad
namespace Go.Proofs.YtclhdppepopgeaaGreatDoor
open Go.RowKit

set_option maxRecDepth 100000 in
set_option maxHeartbeats 3200000 in
theorem load_law (l : List FE) (v : Value) (w : World) (hv : FL w v l) (hn : l.length ≤ 4611686018427387903) (hsz : ∀ e ∈ l, e.path.size < 4611686018427387904 ∧ e.text.size ≤ maxLen) :
    Calls Tryz.prog 3 #[v] w fun e w' => e = .returned (.bool true) ∧ Below w.heap.size w w' := by
  have HL0 := Lib.hid (landed_any w)
  have HV := Lib.hid hv
  have HA := Lib.hid (fun W (h : FL W v l) => rload_any l v W h hn hsz)
  have HB := Lib.hid (fun W (h : FL W v l) => loadAll_any l v W h hn hsz)
  obtain ⟨A, c, rfl, _, _⟩ := hv
  clear hsz
  go_enter Tryz.func3, Tryz.ntmps3
  go_wp2_with fail
  refine HL0.out.mono ?_
  rintro e w1 ⟨rfl, hb1⟩
  have HB1 := Lib.hid hb1
  have HV1 := Lib.hid (HV.out.keep hb1)
  have HR := Lib.hid (HA.out w1 HV1.out)
  clear hb1
  go_wp2_with fail
  refine HR.out.mono ?_
  rintro e w2 ⟨⟨p, rfl⟩, hb2⟩
  have HB2 : Hid (Below w.heap.size w w2) := Lib.hid (HB1.out.trans (hb2.mono HB1.out.size))
  have HV2 := Lib.hid (HV1.out.keep hb2)
  have HL := Lib.hid (HB.out w2 HV2.out)
  obtain ⟨an, han⟩ : ∃ an, an = answerT l := ⟨_, rfl⟩
  rw [← han]
  clear hb2
  go_wp2_with fail
  refine HL.out.mono ?_
  rintro e w3 ⟨p2, rfl, hb3, hz⟩
  rw [← han]
  rw [← han] at hz
  have HB3 : Hid (Below w.heap.size w w3) := Lib.hid (HB2.out.trans (hb3.mono HB2.out.size))
  have HV3 := Lib.hid (HV2.out.keep hb3)
  have HZ := Lib.hid hz
  clear hb3 hz han
  by_cases h0 : an = 0
  · obtain ⟨t, s, mn, nb, eb, ch, vb, vo, vc, N, rfl, hT, hW, hN, hall⟩ := HZ.out h0
    subst h0
    have HDU := Lib.hid (dump_any s t mn nb eb ch vb vo vc w3 hT N hW hN)
    have HAL := Lib.hid hall
    clear hT hW hall
    go_wp2_with fail
    refine HDU.out.mono ?_
    rintro e w4 ⟨v2, rfl, hfl4, hb4⟩
    have HB4 : Hid (Below w.heap.size w w4) := Lib.hid (HB3.out.trans (hb4.mono HB3.out.size))
    rw [HAL.out] at hfl4
    have heq := equal_any l l v2 _ w4 hfl4 (HV3.out.keep hb4) hn hn
    rw [decide_eq_true (rfl : l = l)] at heq
    have HEQ := Lib.hid heq
    clear heq
    clear hb4 hfl4
    go_wp2_with fail
    refine HEQ.out.mono ?_
    rintro e w5 ⟨rfl, hb5⟩
    have HB5 : Hid (Below w.heap.size w w5) := Lib.hid (HB4.out.trans (hb5.mono HB4.out.size))
    clear hb5
    go_wp2_with fail
    go_ret
    exact ⟨rfl, HB5.out⟩
  · have h0b : (an == 0) = false := beq_eq_false_iff_ne.2 h0
    go_wp2_with fail
    go_ret
    exact ⟨rfl, HB3.out⟩
end Go.Proofs.YtclhdppepopgeaaGreatDoor
