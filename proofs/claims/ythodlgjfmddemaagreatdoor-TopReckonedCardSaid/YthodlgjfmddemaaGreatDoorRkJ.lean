/- Reading a decimal: the whole. -/
import Derived.Test.YthodlgjfmddemaaGreatDoorRkIb
namespace Go.Proofs.YthodlgjfmddemaaGreatDoor.Rk
open Go.RowKit

theorem decOf_split (s : List UInt8) : decOf s = decBody (Lib.hasPrefix s [45]) (Lib.trimPrefix s [45]) := by
  unfold Lib.trimPrefix
  cases s with
  | nil => rfl
  | cons c r =>
    by_cases hc : c = 45
    · subst hc
      have hp : Lib.hasPrefix (45 :: r) [45] = true := by simp [Lib.hasPrefix]
      rw [hp, if_pos rfl]
      rfl
    · have hp : Lib.hasPrefix (c :: r) [45] = false := by
        cases hq : Lib.hasPrefix (c :: r) [45] with
        | false => rfl
        | true =>
          obtain ⟨q, hq⟩ := List.isPrefixOf_iff_prefix.1 hq
          simp at hq
          exact absurd hq.1.symm hc
      rw [hp, if_neg (by simp)]
      unfold decOf
      split
      · rename_i h
        injection h with h1 _
        exact absurd h1 hc
      · rfl
theorem toB_get (s : List UInt8) (k : Nat) (h : k < (toB s).size) : (toB s)[k]'h = s[k]'(by rw [toB_size] at h; exact h) := by
  show (toB s).data[k]'_ = _
  simp [toB]
def DecOfP (s : List UInt8) (w : World) (e : Ending) (w' : World) : Prop := ∃ nv d, e = .returned (.tuple #[.agg (dcs d.below nv d.scale), .bool (decOf s).isSome]) ∧ NL w' nv d.n ∧ Fresh w.heap.size nv ∧ (∀ d', decOf s = some d' → d' = d) ∧ Below w.heap.size w w'
set_option maxRecDepth 100000 in
set_option maxHeartbeats 3200000 in
theorem decimalOf_any (s : List UInt8) (w : World) (hs : s.length ≤ 140737488355328) :
    Calls Tryz.prog 25 #[.string (toB s)] w (DecOfP s w) := by
  obtain ⟨b, hb⟩ : ∃ b, b = Lib.hasPrefix s [45] := ⟨_, rfl⟩
  obtain ⟨t, ht⟩ : ∃ t, t = Lib.trimPrefix s [45] := ⟨_, rfl⟩
  have htl : t.length ≤ s.length := by
    rw [ht]; unfold Lib.trimPrefix; split
    · rw [List.length_drop]; omega
    · exact Nat.le_refl _
  have HP := Lib.hid (fun W => (by have := Tryz.strings_CutPrefix (toB s) ⟨#[45]⟩ W; rw [show (toB s).data.toList = s from rfl, show (⟨#[45]⟩ : ByteArray).data.toList = [45] from rfl, ← hb, ← ht] at this; exact this : Calls Tryz.prog 48 #[.string (toB s), .string ⟨#[45]⟩] W fun e w' => e = .returned (.tuple #[.string (toB t), .bool b]) ∧ w' = W))
  have HC := Lib.hid (fun W => stcut_any t W (by omega))
  obtain ⟨P, hP⟩ : ∃ P, P = (cutDot t).1 := ⟨_, rfl⟩
  obtain ⟨R, hR⟩ : ∃ R, R = (cutDot t).2.1 := ⟨_, rfl⟩
  obtain ⟨o, ho⟩ : ∃ o, o = (cutDot t).2.2 := ⟨_, rfl⟩
  have hl := cutDot_len t
  have hoR : o = false → R = [] := by
    rw [ho, hR]; unfold cutDot; split
    · intro h; cases h
    · intro _; rfl
  have hD : decOf s = if isDigB P = false ∨ (1 < P.length ∧ P.head? = some 48) ∨ (o = true ∧ isDigB R = false) then none else if b = true ∧ nval (P ++ R) = 0 then none else some ⟨b, nval (P ++ R), R.length⟩ := by
    rw [decOf_split, ← hb, ← ht, hP, hR, ho]; rfl
  unfold CutP at HC
  rw [← hP, ← hR, ← ho] at HC
  rw [← hP, ← hR] at hl
  have hPl : P.length ≤ 140737488355328 := by omega
  have hRl : R.length ≤ 140737488355328 := by omega
  have hPR : (P ++ R).length ≤ 140737488355328 := by rw [List.length_append]; omega
  have HIP := Lib.hid (fun W => isDigits_any P W (by omega))
  have HIR := Lib.hid (fun W => isDigits_any R W (by omega))
  have hsP := toB_size P
  have hsR := toB_size R
  have hcat : toB P ++ toB R = toB (P ++ R) := toB_app P R
  have hnlt : ¬ 9223372036854775807 < P.length + R.length := by rw [List.length_append] at hPR; omega
  obtain ⟨w1, hw1⟩ : ∃ w1, w1 = w.alloc (.cells #[.bool false, .slice none 0 0, .int .i64 0] 48) := ⟨_, rfl⟩
  have hb1 : Below w.heap.size w w1 := by rw [hw1]; exact box1 _ _ _ _
  have h3 : B3 w1 w.heap.size (.bool false) (.slice none 0 0) (.int .i64 0) := by rw [hw1]; exact B3.new w _ _ _
  obtain ⟨g, hg⟩ : ∃ g, g = w.heap.size := ⟨_, rfl⟩
  rw [← hg] at h3
  obtain ⟨Q, hQ⟩ : ∃ Q, DecOfP s w = Q := ⟨_, rfl⟩
  rw [hQ]
  -- nothing is read
  have HBad := Lib.hid (fun W (hd : decOf s = none) (h : Below w1.heap.size w1 W) => (show Q (.returned (.tuple #[.agg (dcs false (.slice none 0 0) 0), .bool false])) (set3 W g (.bool false) (.slice none 0 0) (.int .i64 0)) from by
    rw [← hQ]
    exact ⟨_, ⟨false, 0, 0⟩, by rw [hd]; rfl, NL.zero _, Fresh.none _ _ _, fun d' h' => (by rw [hd] at h'; cases h'), below_set3 (hb1.trans (h.mono (Below.size hb1))) (by rw [hg]; exact Nat.le_refl _) _ _ _⟩))
  have HGood := Lib.hid (fun W nv (hd : decOf s = if b = true ∧ nval (P ++ R) = 0 then none else some ⟨b, nval (P ++ R), R.length⟩) (hn : NL W nv (nval (P ++ R))) (hf : Fresh w.heap.size nv) (hu : NoU W g) (h : Below w1.heap.size w1 W) => (show Q (.returned (.tuple #[.agg (dcs b nv R.length), .bool (!b || decide (nval (P ++ R) ≠ 0))])) (set3 W g (.bool b) nv (.int .i64 (R.length : Int))) from by
    rw [← hQ]
    refine ⟨_, ⟨b, nval (P ++ R), R.length⟩, ?_, hn.set3 hu, hf, fun d' h' => ?_, below_set3 (hb1.trans (h.mono (Below.size hb1))) (by rw [hg]; exact Nat.le_refl _) _ _ _⟩
    · rw [hd]
      cases b <;> by_cases h0 : nval (P ++ R) = 0 <;> simp [h0]
    · rw [hd] at h'
      split at h'
      · cases h'
      · injection h' with h'; exact h'.symm))
  have HN := Lib.hid (fun W (h : isDig (P ++ R)) => naturalOf_fresh (P ++ R) W h hPR)
  have HDP := Lib.hid (show isDigB P = true → P ≠ [] ∧ isDig P from isDig_of_B)
  have HDR := Lib.hid (show isDigB R = true → R ≠ [] ∧ isDig R from isDig_of_B)
  have HW1 := Lib.hid hw1
  have HB3 := Lib.hid h3
  have HG := Lib.hid hg
  have HD := Lib.hid hD
  have HoR := Lib.hid hoR
  clear hQ hw1 h3 hg hD hoR hb ht hP hR ho hl htl hs hb1 hPR
  generalize decOf s = DS at *
  generalize nval (P ++ R) = N at *
  clear hPl
  go_enter Tryz.func25, Tryz.ntmps25
  go_upto_region 1 with fail
  rw [← HW1.out, ← HG.out]
  have hgl := HB3.out.lt
  go_upto_region 3 with (first | (go_at_call 48; refine (HP.out _).mono ?_; rintro e wp ⟨rfl, hwp⟩; obtain rfl := hwp.symm) | (go_at_call 7; refine (HC.out _).mono ?_; rintro e w2 ⟨rfl, hb2⟩))
  have HB2 := Lib.hid hb2
  clear hb2 HC HP
  cases hdP : isDigB P with
  | false =>
    have hd : DS = none := by rw [HD.out, if_pos (.inl hdP)]
    rw [hdP] at HIP
    go_wp2_with (go_at_call 49; refine (HIP.out _).mono ?_; rintro e wx ⟨rfl, hbwx⟩; have hbz : Below w1.heap.size w1 wx := HB2.out.trans (hbwx.mono (Below.size HB2.out)); obtain ⟨q0, q1, q2, qf⟩ := (HB3.out.below hbz).cells)
    have HQ := Lib.hid (HBad.out wx hd hbz)
    obtain ⟨y0, y1, y2, _⟩ := ((HB3.out.below hbz).set3 (.bool false) (.slice none 0 0) (.int .i64 0)).cells
    have Hy := Lib.hid (And.intro y0 (And.intro y1 y2))
    clear y0 y1 y2 hbz
    try go_wp2_with fail
    obtain ⟨y0, y1, y2⟩ := Hy.out
    exact bodyPost_ret (v := .tuple #[.agg (dcs false (.slice none 0 0) 0), .bool false]) (by simp [results, Tryz.results25, go_sem, y0, y1, y2]) rfl HQ.out
  | true =>
    rw [hdP] at HIP
    obtain ⟨hP0, hPd⟩ := HDP.out hdP
    obtain ⟨n, hn⟩ : ∃ n, n = P.length := ⟨_, rfl⟩
    have hnp : 0 < n := by rw [hn]; exact List.length_pos_iff.2 hP0
    obtain ⟨x, hx⟩ : ∃ x, P.head? = some x := by
      cases P with
      | nil => exact absurd rfl hP0
      | cons x P' => exact ⟨x, rfl⟩
    have hlt : 0 < (toB P).size := by rw [hsP, ← hn]; exact hnp
    have hgx : (toB P)[0]'hlt = x := by
      rw [toB_get]
      cases P with
      | nil => exact absurd rfl hP0
      | cons y P' => injection hx
    have hgo : (toB P)[0]? = some x := by rw [getElem?_pos (toB P) 0 hlt, hgx]
    rw [← hn] at hsP hnlt
    by_cases hbad : 1 < n ∧ x = 48
    · have hd : DS = none := by rw [HD.out, if_pos (.inr (.inl ⟨by rw [← hn]; exact hbad.1, by rw [hx, hbad.2]⟩))]
      obtain ⟨h1n, rfl⟩ := hbad
      have h1z : (n : Int) > 1 := by omega
      have h0z : (0 : Int) < (n : Int) := by omega
      clear hP0 hPd hx
      go_wp2_with (go_at_call 49; refine (HIP.out _).mono ?_; rintro e wx ⟨rfl, hbwx⟩; have hbz : Below w1.heap.size w1 wx := HB2.out.trans (hbwx.mono (Below.size HB2.out)); obtain ⟨q0, q1, q2, qf⟩ := (HB3.out.below hbz).cells)
      have HQ := Lib.hid (HBad.out wx hd hbz)
      obtain ⟨y0, y1, y2, _⟩ := ((HB3.out.below hbz).set3 (.bool false) (.slice none 0 0) (.int .i64 0)).cells
      have Hy := Lib.hid (And.intro y0 (And.intro y1 y2))
      clear y0 y1 y2 hbz
      try go_wp2_with fail
      obtain ⟨y0, y1, y2⟩ := Hy.out
      exact bodyPost_ret (v := .tuple #[.agg (dcs false (.slice none 0 0) 0), .bool false]) (by simp [results, Tryz.results25, go_sem, y0, y1, y2]) rfl HQ.out
    · have hnb : ¬ (1 < P.length ∧ P.head? = some 48) := by
        rw [← hn, hx]
        rintro ⟨h1, h2⟩
        injection h2 with h2
        exact hbad ⟨h1, h2⟩
      by_cases h1 : 1 < n
      · have hx48 : ¬ x = 48 := fun e => hbad ⟨h1, e⟩
        have hxn : ¬ (x.toNat : Int) = 48 := fun e => hx48 (UInt8.toNat_inj.1 (show x.toNat = 48 by omega))
        have hxz : ((x.toNat : Int) == 48) = false := beq_eq_false_iff_ne.2 hxn
        have h1z : (n : Int) > 1 := by omega
        have h0z : (0 : Int) < (n : Int) := by omega
        clear hbad hx
        cases o with
        | false =>
          have hR0 := HoR.out rfl
          have hd : DS = if b = true ∧ N = 0 then none else some ⟨b, N, R.length⟩ := by rw [HD.out, if_neg (fun h => h.elim (fun h => by rw [hdP] at h; cases h) (fun h => h.elim hnb (fun h => by cases h.1)))]
          have HDig := Lib.hid (show isDig (P ++ R) by rw [hR0, List.append_nil]; exact hPd)
          have HDd := Lib.hid hd
          clear hd hP0 hPd hR0
          go_wp2_with (go_at_call 49; refine (HIP.out _).mono ?_; rintro e wx ⟨rfl, hbwx⟩; have hbz : Below w1.heap.size w1 wx := HB2.out.trans (hbwx.mono (Below.size HB2.out)); obtain ⟨q0, q1, q2, qf⟩ := (HB3.out.below hbz).cells)
          have HBz := Lib.hid hbz
          clear hbz
          go_wp2_with fail
          refine (HN.out _ HDig.out).mono ?_
          rintro e w5 ⟨nv, rfl, hn, hb5, hfr⟩
          have HFr := Lib.hid (show Fresh w.heap.size nv from hfr.le (by have := HG.out; have := HBz.out.size; omega))
          clear hfr
          obtain ⟨A, c, rfl, _, _⟩ := RL.form hn
          have HB5 := Lib.hid (HBz.out.trans (hb5.mono HBz.out.size))
          have HN5 := Lib.hid hn
          obtain ⟨m, hm⟩ : ∃ m, m = nl N := ⟨_, rfl⟩
          obtain ⟨w6, hw6⟩ : ∃ w6, w6 = w5.alloc (.cells #[.bool b, .slice A m c, .int .i64 (R.length : Int)] 48) := ⟨_, rfl⟩
          have hb6 : Below w5.heap.size w5 w6 := by rw [hw6]; exact box1 _ _ _ _
          have hk6 : B3 w6 w5.heap.size (.bool b) (.slice A m c) (.int .i64 (R.length : Int)) := by rw [hw6]; exact B3.new w5 _ _ _
          obtain ⟨k, hk⟩ : ∃ k, k = w5.heap.size := ⟨_, rfl⟩
          rw [← hk] at hk6
          have hn6 := hn.keep hb6
          have hB6 := HB5.out.trans (hb6.mono HB5.out.size)
          have hg6 := HB3.out.below hB6
          have HE := Lib.hid (fun q => HGood.out (w6.drewN q) _ HDd.out (hn6.keep (below_drewN (Below.refl _ _) q)) HFr.out (hg6.below (below_drewN (Below.refl _ _) q)).noU (hB6.trans (below_drewN (Below.refl _ _) q)))
          have HM := Lib.hid hm
          have HK := Lib.hid hk
          have HW6 := Lib.hid hw6
          have HG6 := Lib.hid hg6
          have HK6 := Lib.hid hk6
          rw [← hm] at HE ⊢
          clear hn hm hw6 hb6 hk6 hk hn6 hB6 hg6 hb5 HN5
          go_upto_region 6 with fail
          rw [← HW6.out, ← HK.out]
          obtain ⟨q0, q1, q2, qf⟩ := HG6.out.cells
          obtain ⟨k0, k1, k2, kf⟩ := HK6.out.cells
          have hgl6 := HG6.out.lt
          have hkl6 := HK6.out.lt
          have hkg : ¬ k = g := by have := HB5.out.size; have := HK.out; omega
          cases b with
          | false =>
            have hrE : (!false || decide (N ≠ 0)) = true := rfl
            obtain ⟨w7, hw7⟩ : ∃ w7, w7 = (set3 w6 g (.bool false) (.slice A m c) (.int .i64 (R.length : Int))).drew := ⟨_, rfl⟩
            have HW7 := Lib.hid hw7
            have HQ := Lib.hid (show Q (.returned (.tuple #[.agg (dcs false (.slice A m c) R.length), .bool true])) w7 from by have h := HE.out 1; rw [hrE] at h; rw [hw7]; exact h)
            have hy : B3 w7 g (.bool false) (.slice A m c) (.int .i64 (R.length : Int)) := by rw [hw7]; exact (HG6.out.set3 _ _ _).below (below_drewN (Below.refl _ _) 1)
            obtain ⟨y0, y1, y2, _⟩ := hy.cells
            have Hy := Lib.hid (And.intro y0 (And.intro y1 y2))
            clear y0 y1 y2 hw7 hy
            go_region
            rw [← HW7.out]
            go_wp2_with fail
            obtain ⟨y0, y1, y2⟩ := Hy.out
            exact bodyPost_ret (v := .tuple #[.agg (dcs false (.slice A m c) R.length), .bool true]) (by simp [results, Tryz.results25, go_sem, y0, y1, y2]) rfl HQ.out
          | true =>
            by_cases hm0 : m = 0
            · subst hm0
              have hrE : (!true || decide (N ≠ 0)) = false := by rw [nl_eq_zero.1 HM.out.symm]; rfl
              obtain ⟨w7, hw7⟩ : ∃ w7, w7 = (set3 w6 g (.bool true) (.slice A 0 c) (.int .i64 (R.length : Int))).drew := ⟨_, rfl⟩
              have HW7 := Lib.hid hw7
              have HQ := Lib.hid (show Q (.returned (.tuple #[.agg (dcs true (.slice A 0 c) R.length), .bool false])) w7 from by have h := HE.out 1; rw [hrE] at h; rw [hw7]; exact h)
              have hy : B3 w7 g (.bool true) (.slice A 0 c) (.int .i64 (R.length : Int)) := by rw [hw7]; exact (HG6.out.set3 _ _ _).below (below_drewN (Below.refl _ _) 1)
              obtain ⟨y0, y1, y2, _⟩ := hy.cells
              have Hy := Lib.hid (And.intro y0 (And.intro y1 y2))
              clear y0 y1 y2 hw7 hy
              go_region
              rw [← HW7.out]
              go_wp2_with fail
              obtain ⟨y0, y1, y2⟩ := Hy.out
              exact bodyPost_ret (v := .tuple #[.agg (dcs true (.slice A 0 c) R.length), .bool false]) (by simp [results, Tryz.results25, go_sem, y0, y1, y2]) rfl HQ.out
            · have hmz : (m : Int) > 0 := by omega
              have hmn : 0 < m := by omega
              have hrE : (!true || decide (N ≠ 0)) = true := by have hN0 : N ≠ 0 := fun h => hm0 (by rw [HM.out, h, nl_zero]); simp [hN0]
              obtain ⟨w7, hw7⟩ : ∃ w7, w7 = (set3 w6 g (.bool true) (.slice A m c) (.int .i64 (R.length : Int))).drew := ⟨_, rfl⟩
              have HW7 := Lib.hid hw7
              have HQ := Lib.hid (show Q (.returned (.tuple #[.agg (dcs true (.slice A m c) R.length), .bool true])) w7 from by have h := HE.out 1; rw [hrE] at h; rw [hw7]; exact h)
              have hy : B3 w7 g (.bool true) (.slice A m c) (.int .i64 (R.length : Int)) := by rw [hw7]; exact (HG6.out.set3 _ _ _).below (below_drewN (Below.refl _ _) 1)
              obtain ⟨y0, y1, y2, _⟩ := hy.cells
              have Hy := Lib.hid (And.intro y0 (And.intro y1 y2))
              clear y0 y1 y2 hw7 hy
              go_region
              rw [← HW7.out]
              go_wp2_with fail
              obtain ⟨y0, y1, y2⟩ := Hy.out
              exact bodyPost_ret (v := .tuple #[.agg (dcs true (.slice A m c) R.length), .bool true]) (by simp [results, Tryz.results25, go_sem, y0, y1, y2]) rfl HQ.out
        | true =>
          cases hdR : isDigB R with
          | false =>
            have hd : DS = none := by rw [HD.out, if_pos (.inr (.inr ⟨rfl, hdR⟩))]
            rw [hdR] at HIR
            clear hP0 hPd
            go_wp2_with (first | (have hxx := hbwy; clear hxx; go_at_call 49; refine (HIR.out _).mono ?_; rintro e wx ⟨rfl, hbwx⟩; have hbz : Below w1.heap.size w1 wx := (HB2.out.trans (hbwy.mono (Below.size HB2.out))).trans (hbwx.mono (Below.size (HB2.out.trans (hbwy.mono (Below.size HB2.out))))); obtain ⟨q0, q1, q2, qf⟩ := (HB3.out.below hbz).cells) | (go_at_call 49; refine (HIP.out _).mono ?_; rintro e wy ⟨rfl, hbwy⟩))
            have HQ := Lib.hid (HBad.out wx hd hbz)
            obtain ⟨y0, y1, y2, _⟩ := ((HB3.out.below hbz).set3 (.bool false) (.slice none 0 0) (.int .i64 0)).cells
            have Hy := Lib.hid (And.intro y0 (And.intro y1 y2))
            clear y0 y1 y2 hbz
            try go_wp2_with fail
            obtain ⟨y0, y1, y2⟩ := Hy.out
            exact bodyPost_ret (v := .tuple #[.agg (dcs false (.slice none 0 0) 0), .bool false]) (by simp [results, Tryz.results25, go_sem, y0, y1, y2]) rfl HQ.out
          | true =>
            have hd : DS = if b = true ∧ N = 0 then none else some ⟨b, N, R.length⟩ := by rw [HD.out, if_neg (fun h => h.elim (fun h => by rw [hdP] at h; cases h) (fun h => h.elim hnb (fun h => by rw [hdR] at h; cases h.2)))]
            have hRd := (HDR.out hdR).2
            have HDig := Lib.hid (show isDig (P ++ R) from fun c hc => (List.mem_append.1 hc).elim (hPd c) (hRd c))
            have HDd := Lib.hid hd
            rw [hdR] at HIR
            clear hd hP0 hPd hRd
            go_wp2_with (first | (have hxx := hbwy; clear hxx; go_at_call 49; refine (HIR.out _).mono ?_; rintro e wx ⟨rfl, hbwx⟩; have hbz : Below w1.heap.size w1 wx := (HB2.out.trans (hbwy.mono (Below.size HB2.out))).trans (hbwx.mono (Below.size (HB2.out.trans (hbwy.mono (Below.size HB2.out))))); obtain ⟨q0, q1, q2, qf⟩ := (HB3.out.below hbz).cells) | (go_at_call 49; refine (HIP.out _).mono ?_; rintro e wy ⟨rfl, hbwy⟩))
            have HBz := Lib.hid hbz
            clear hbz
            go_wp2_with fail
            refine (HN.out _ HDig.out).mono ?_
            rintro e w5 ⟨nv, rfl, hn, hb5, hfr⟩
            have HFr := Lib.hid (show Fresh w.heap.size nv from hfr.le (by have := HG.out; have := HBz.out.size; omega))
            clear hfr
            obtain ⟨A, c, rfl, _, _⟩ := RL.form hn
            have HB5 := Lib.hid (HBz.out.trans (hb5.mono HBz.out.size))
            have HN5 := Lib.hid hn
            obtain ⟨m, hm⟩ : ∃ m, m = nl N := ⟨_, rfl⟩
            obtain ⟨w6, hw6⟩ : ∃ w6, w6 = w5.alloc (.cells #[.bool b, .slice A m c, .int .i64 (R.length : Int)] 48) := ⟨_, rfl⟩
            have hb6 : Below w5.heap.size w5 w6 := by rw [hw6]; exact box1 _ _ _ _
            have hk6 : B3 w6 w5.heap.size (.bool b) (.slice A m c) (.int .i64 (R.length : Int)) := by rw [hw6]; exact B3.new w5 _ _ _
            obtain ⟨k, hk⟩ : ∃ k, k = w5.heap.size := ⟨_, rfl⟩
            rw [← hk] at hk6
            have hn6 := hn.keep hb6
            have hB6 := HB5.out.trans (hb6.mono HB5.out.size)
            have hg6 := HB3.out.below hB6
            have HE := Lib.hid (fun q => HGood.out (w6.drewN q) _ HDd.out (hn6.keep (below_drewN (Below.refl _ _) q)) HFr.out (hg6.below (below_drewN (Below.refl _ _) q)).noU (hB6.trans (below_drewN (Below.refl _ _) q)))
            have HM := Lib.hid hm
            have HK := Lib.hid hk
            have HW6 := Lib.hid hw6
            have HG6 := Lib.hid hg6
            have HK6 := Lib.hid hk6
            rw [← hm] at HE ⊢
            clear hn hm hw6 hb6 hk6 hk hn6 hB6 hg6 hb5 HN5
            go_upto_region 6 with fail
            rw [← HW6.out, ← HK.out]
            obtain ⟨q0, q1, q2, qf⟩ := HG6.out.cells
            obtain ⟨k0, k1, k2, kf⟩ := HK6.out.cells
            have hgl6 := HG6.out.lt
            have hkl6 := HK6.out.lt
            have hkg : ¬ k = g := by have := HB5.out.size; have := HK.out; omega
            cases b with
            | false =>
              have hrE : (!false || decide (N ≠ 0)) = true := rfl
              obtain ⟨w7, hw7⟩ : ∃ w7, w7 = (set3 w6 g (.bool false) (.slice A m c) (.int .i64 (R.length : Int))).drew := ⟨_, rfl⟩
              have HW7 := Lib.hid hw7
              have HQ := Lib.hid (show Q (.returned (.tuple #[.agg (dcs false (.slice A m c) R.length), .bool true])) w7 from by have h := HE.out 1; rw [hrE] at h; rw [hw7]; exact h)
              have hy : B3 w7 g (.bool false) (.slice A m c) (.int .i64 (R.length : Int)) := by rw [hw7]; exact (HG6.out.set3 _ _ _).below (below_drewN (Below.refl _ _) 1)
              obtain ⟨y0, y1, y2, _⟩ := hy.cells
              have Hy := Lib.hid (And.intro y0 (And.intro y1 y2))
              clear y0 y1 y2 hw7 hy
              go_region
              rw [← HW7.out]
              go_wp2_with fail
              obtain ⟨y0, y1, y2⟩ := Hy.out
              exact bodyPost_ret (v := .tuple #[.agg (dcs false (.slice A m c) R.length), .bool true]) (by simp [results, Tryz.results25, go_sem, y0, y1, y2]) rfl HQ.out
            | true =>
              by_cases hm0 : m = 0
              · subst hm0
                have hrE : (!true || decide (N ≠ 0)) = false := by rw [nl_eq_zero.1 HM.out.symm]; rfl
                obtain ⟨w7, hw7⟩ : ∃ w7, w7 = (set3 w6 g (.bool true) (.slice A 0 c) (.int .i64 (R.length : Int))).drew := ⟨_, rfl⟩
                have HW7 := Lib.hid hw7
                have HQ := Lib.hid (show Q (.returned (.tuple #[.agg (dcs true (.slice A 0 c) R.length), .bool false])) w7 from by have h := HE.out 1; rw [hrE] at h; rw [hw7]; exact h)
                have hy : B3 w7 g (.bool true) (.slice A 0 c) (.int .i64 (R.length : Int)) := by rw [hw7]; exact (HG6.out.set3 _ _ _).below (below_drewN (Below.refl _ _) 1)
                obtain ⟨y0, y1, y2, _⟩ := hy.cells
                have Hy := Lib.hid (And.intro y0 (And.intro y1 y2))
                clear y0 y1 y2 hw7 hy
                go_region
                rw [← HW7.out]
                go_wp2_with fail
                obtain ⟨y0, y1, y2⟩ := Hy.out
                exact bodyPost_ret (v := .tuple #[.agg (dcs true (.slice A 0 c) R.length), .bool false]) (by simp [results, Tryz.results25, go_sem, y0, y1, y2]) rfl HQ.out
              · have hmz : (m : Int) > 0 := by omega
                have hmn : 0 < m := by omega
                have hrE : (!true || decide (N ≠ 0)) = true := by have hN0 : N ≠ 0 := fun h => hm0 (by rw [HM.out, h, nl_zero]); simp [hN0]
                obtain ⟨w7, hw7⟩ : ∃ w7, w7 = (set3 w6 g (.bool true) (.slice A m c) (.int .i64 (R.length : Int))).drew := ⟨_, rfl⟩
                have HW7 := Lib.hid hw7
                have HQ := Lib.hid (show Q (.returned (.tuple #[.agg (dcs true (.slice A m c) R.length), .bool true])) w7 from by have h := HE.out 1; rw [hrE] at h; rw [hw7]; exact h)
                have hy : B3 w7 g (.bool true) (.slice A m c) (.int .i64 (R.length : Int)) := by rw [hw7]; exact (HG6.out.set3 _ _ _).below (below_drewN (Below.refl _ _) 1)
                obtain ⟨y0, y1, y2, _⟩ := hy.cells
                have Hy := Lib.hid (And.intro y0 (And.intro y1 y2))
                clear y0 y1 y2 hw7 hy
                go_region
                rw [← HW7.out]
                go_wp2_with fail
                obtain ⟨y0, y1, y2⟩ := Hy.out
                exact bodyPost_ret (v := .tuple #[.agg (dcs true (.slice A m c) R.length), .bool true]) (by simp [results, Tryz.results25, go_sem, y0, y1, y2]) rfl HQ.out
      · have h1z : ¬ (n : Int) > 1 := by omega
        clear hbad hx
        cases o with
        | false =>
          have hR0 := HoR.out rfl
          have hd : DS = if b = true ∧ N = 0 then none else some ⟨b, N, R.length⟩ := by rw [HD.out, if_neg (fun h => h.elim (fun h => by rw [hdP] at h; cases h) (fun h => h.elim hnb (fun h => by cases h.1)))]
          have HDig := Lib.hid (show isDig (P ++ R) by rw [hR0, List.append_nil]; exact hPd)
          have HDd := Lib.hid hd
          clear hd hP0 hPd hR0
          go_wp2_with (go_at_call 49; refine (HIP.out _).mono ?_; rintro e wx ⟨rfl, hbwx⟩; have hbz : Below w1.heap.size w1 wx := HB2.out.trans (hbwx.mono (Below.size HB2.out)); obtain ⟨q0, q1, q2, qf⟩ := (HB3.out.below hbz).cells)
          have HBz := Lib.hid hbz
          clear hbz
          go_wp2_with fail
          refine (HN.out _ HDig.out).mono ?_
          rintro e w5 ⟨nv, rfl, hn, hb5, hfr⟩
          have HFr := Lib.hid (show Fresh w.heap.size nv from hfr.le (by have := HG.out; have := HBz.out.size; omega))
          clear hfr
          obtain ⟨A, c, rfl, _, _⟩ := RL.form hn
          have HB5 := Lib.hid (HBz.out.trans (hb5.mono HBz.out.size))
          have HN5 := Lib.hid hn
          obtain ⟨m, hm⟩ : ∃ m, m = nl N := ⟨_, rfl⟩
          obtain ⟨w6, hw6⟩ : ∃ w6, w6 = w5.alloc (.cells #[.bool b, .slice A m c, .int .i64 (R.length : Int)] 48) := ⟨_, rfl⟩
          have hb6 : Below w5.heap.size w5 w6 := by rw [hw6]; exact box1 _ _ _ _
          have hk6 : B3 w6 w5.heap.size (.bool b) (.slice A m c) (.int .i64 (R.length : Int)) := by rw [hw6]; exact B3.new w5 _ _ _
          obtain ⟨k, hk⟩ : ∃ k, k = w5.heap.size := ⟨_, rfl⟩
          rw [← hk] at hk6
          have hn6 := hn.keep hb6
          have hB6 := HB5.out.trans (hb6.mono HB5.out.size)
          have hg6 := HB3.out.below hB6
          have HE := Lib.hid (fun q => HGood.out (w6.drewN q) _ HDd.out (hn6.keep (below_drewN (Below.refl _ _) q)) HFr.out (hg6.below (below_drewN (Below.refl _ _) q)).noU (hB6.trans (below_drewN (Below.refl _ _) q)))
          have HM := Lib.hid hm
          have HK := Lib.hid hk
          have HW6 := Lib.hid hw6
          have HG6 := Lib.hid hg6
          have HK6 := Lib.hid hk6
          rw [← hm] at HE ⊢
          clear hn hm hw6 hb6 hk6 hk hn6 hB6 hg6 hb5 HN5
          go_upto_region 6 with fail
          rw [← HW6.out, ← HK.out]
          obtain ⟨q0, q1, q2, qf⟩ := HG6.out.cells
          obtain ⟨k0, k1, k2, kf⟩ := HK6.out.cells
          have hgl6 := HG6.out.lt
          have hkl6 := HK6.out.lt
          have hkg : ¬ k = g := by have := HB5.out.size; have := HK.out; omega
          cases b with
          | false =>
            have hrE : (!false || decide (N ≠ 0)) = true := rfl
            obtain ⟨w7, hw7⟩ : ∃ w7, w7 = (set3 w6 g (.bool false) (.slice A m c) (.int .i64 (R.length : Int))).drew := ⟨_, rfl⟩
            have HW7 := Lib.hid hw7
            have HQ := Lib.hid (show Q (.returned (.tuple #[.agg (dcs false (.slice A m c) R.length), .bool true])) w7 from by have h := HE.out 1; rw [hrE] at h; rw [hw7]; exact h)
            have hy : B3 w7 g (.bool false) (.slice A m c) (.int .i64 (R.length : Int)) := by rw [hw7]; exact (HG6.out.set3 _ _ _).below (below_drewN (Below.refl _ _) 1)
            obtain ⟨y0, y1, y2, _⟩ := hy.cells
            have Hy := Lib.hid (And.intro y0 (And.intro y1 y2))
            clear y0 y1 y2 hw7 hy
            go_region
            rw [← HW7.out]
            go_wp2_with fail
            obtain ⟨y0, y1, y2⟩ := Hy.out
            exact bodyPost_ret (v := .tuple #[.agg (dcs false (.slice A m c) R.length), .bool true]) (by simp [results, Tryz.results25, go_sem, y0, y1, y2]) rfl HQ.out
          | true =>
            by_cases hm0 : m = 0
            · subst hm0
              have hrE : (!true || decide (N ≠ 0)) = false := by rw [nl_eq_zero.1 HM.out.symm]; rfl
              obtain ⟨w7, hw7⟩ : ∃ w7, w7 = (set3 w6 g (.bool true) (.slice A 0 c) (.int .i64 (R.length : Int))).drew := ⟨_, rfl⟩
              have HW7 := Lib.hid hw7
              have HQ := Lib.hid (show Q (.returned (.tuple #[.agg (dcs true (.slice A 0 c) R.length), .bool false])) w7 from by have h := HE.out 1; rw [hrE] at h; rw [hw7]; exact h)
              have hy : B3 w7 g (.bool true) (.slice A 0 c) (.int .i64 (R.length : Int)) := by rw [hw7]; exact (HG6.out.set3 _ _ _).below (below_drewN (Below.refl _ _) 1)
              obtain ⟨y0, y1, y2, _⟩ := hy.cells
              have Hy := Lib.hid (And.intro y0 (And.intro y1 y2))
              clear y0 y1 y2 hw7 hy
              go_region
              rw [← HW7.out]
              go_wp2_with fail
              obtain ⟨y0, y1, y2⟩ := Hy.out
              exact bodyPost_ret (v := .tuple #[.agg (dcs true (.slice A 0 c) R.length), .bool false]) (by simp [results, Tryz.results25, go_sem, y0, y1, y2]) rfl HQ.out
            · have hmz : (m : Int) > 0 := by omega
              have hmn : 0 < m := by omega
              have hrE : (!true || decide (N ≠ 0)) = true := by have hN0 : N ≠ 0 := fun h => hm0 (by rw [HM.out, h, nl_zero]); simp [hN0]
              obtain ⟨w7, hw7⟩ : ∃ w7, w7 = (set3 w6 g (.bool true) (.slice A m c) (.int .i64 (R.length : Int))).drew := ⟨_, rfl⟩
              have HW7 := Lib.hid hw7
              have HQ := Lib.hid (show Q (.returned (.tuple #[.agg (dcs true (.slice A m c) R.length), .bool true])) w7 from by have h := HE.out 1; rw [hrE] at h; rw [hw7]; exact h)
              have hy : B3 w7 g (.bool true) (.slice A m c) (.int .i64 (R.length : Int)) := by rw [hw7]; exact (HG6.out.set3 _ _ _).below (below_drewN (Below.refl _ _) 1)
              obtain ⟨y0, y1, y2, _⟩ := hy.cells
              have Hy := Lib.hid (And.intro y0 (And.intro y1 y2))
              clear y0 y1 y2 hw7 hy
              go_region
              rw [← HW7.out]
              go_wp2_with fail
              obtain ⟨y0, y1, y2⟩ := Hy.out
              exact bodyPost_ret (v := .tuple #[.agg (dcs true (.slice A m c) R.length), .bool true]) (by simp [results, Tryz.results25, go_sem, y0, y1, y2]) rfl HQ.out
        | true =>
          cases hdR : isDigB R with
          | false =>
            have hd : DS = none := by rw [HD.out, if_pos (.inr (.inr ⟨rfl, hdR⟩))]
            rw [hdR] at HIR
            clear hP0 hPd
            go_wp2_with (first | (have hxx := hbwy; clear hxx; go_at_call 49; refine (HIR.out _).mono ?_; rintro e wx ⟨rfl, hbwx⟩; have hbz : Below w1.heap.size w1 wx := (HB2.out.trans (hbwy.mono (Below.size HB2.out))).trans (hbwx.mono (Below.size (HB2.out.trans (hbwy.mono (Below.size HB2.out))))); obtain ⟨q0, q1, q2, qf⟩ := (HB3.out.below hbz).cells) | (go_at_call 49; refine (HIP.out _).mono ?_; rintro e wy ⟨rfl, hbwy⟩))
            have HQ := Lib.hid (HBad.out wx hd hbz)
            obtain ⟨y0, y1, y2, _⟩ := ((HB3.out.below hbz).set3 (.bool false) (.slice none 0 0) (.int .i64 0)).cells
            have Hy := Lib.hid (And.intro y0 (And.intro y1 y2))
            clear y0 y1 y2 hbz
            try go_wp2_with fail
            obtain ⟨y0, y1, y2⟩ := Hy.out
            exact bodyPost_ret (v := .tuple #[.agg (dcs false (.slice none 0 0) 0), .bool false]) (by simp [results, Tryz.results25, go_sem, y0, y1, y2]) rfl HQ.out
          | true =>
            have hd : DS = if b = true ∧ N = 0 then none else some ⟨b, N, R.length⟩ := by rw [HD.out, if_neg (fun h => h.elim (fun h => by rw [hdP] at h; cases h) (fun h => h.elim hnb (fun h => by rw [hdR] at h; cases h.2)))]
            have hRd := (HDR.out hdR).2
            have HDig := Lib.hid (show isDig (P ++ R) from fun c hc => (List.mem_append.1 hc).elim (hPd c) (hRd c))
            have HDd := Lib.hid hd
            rw [hdR] at HIR
            clear hd hP0 hPd hRd
            go_wp2_with (first | (have hxx := hbwy; clear hxx; go_at_call 49; refine (HIR.out _).mono ?_; rintro e wx ⟨rfl, hbwx⟩; have hbz : Below w1.heap.size w1 wx := (HB2.out.trans (hbwy.mono (Below.size HB2.out))).trans (hbwx.mono (Below.size (HB2.out.trans (hbwy.mono (Below.size HB2.out))))); obtain ⟨q0, q1, q2, qf⟩ := (HB3.out.below hbz).cells) | (go_at_call 49; refine (HIP.out _).mono ?_; rintro e wy ⟨rfl, hbwy⟩))
            have HBz := Lib.hid hbz
            clear hbz
            go_wp2_with fail
            refine (HN.out _ HDig.out).mono ?_
            rintro e w5 ⟨nv, rfl, hn, hb5, hfr⟩
            have HFr := Lib.hid (show Fresh w.heap.size nv from hfr.le (by have := HG.out; have := HBz.out.size; omega))
            clear hfr
            obtain ⟨A, c, rfl, _, _⟩ := RL.form hn
            have HB5 := Lib.hid (HBz.out.trans (hb5.mono HBz.out.size))
            have HN5 := Lib.hid hn
            obtain ⟨m, hm⟩ : ∃ m, m = nl N := ⟨_, rfl⟩
            obtain ⟨w6, hw6⟩ : ∃ w6, w6 = w5.alloc (.cells #[.bool b, .slice A m c, .int .i64 (R.length : Int)] 48) := ⟨_, rfl⟩
            have hb6 : Below w5.heap.size w5 w6 := by rw [hw6]; exact box1 _ _ _ _
            have hk6 : B3 w6 w5.heap.size (.bool b) (.slice A m c) (.int .i64 (R.length : Int)) := by rw [hw6]; exact B3.new w5 _ _ _
            obtain ⟨k, hk⟩ : ∃ k, k = w5.heap.size := ⟨_, rfl⟩
            rw [← hk] at hk6
            have hn6 := hn.keep hb6
            have hB6 := HB5.out.trans (hb6.mono HB5.out.size)
            have hg6 := HB3.out.below hB6
            have HE := Lib.hid (fun q => HGood.out (w6.drewN q) _ HDd.out (hn6.keep (below_drewN (Below.refl _ _) q)) HFr.out (hg6.below (below_drewN (Below.refl _ _) q)).noU (hB6.trans (below_drewN (Below.refl _ _) q)))
            have HM := Lib.hid hm
            have HK := Lib.hid hk
            have HW6 := Lib.hid hw6
            have HG6 := Lib.hid hg6
            have HK6 := Lib.hid hk6
            rw [← hm] at HE ⊢
            clear hn hm hw6 hb6 hk6 hk hn6 hB6 hg6 hb5 HN5
            go_upto_region 6 with fail
            rw [← HW6.out, ← HK.out]
            obtain ⟨q0, q1, q2, qf⟩ := HG6.out.cells
            obtain ⟨k0, k1, k2, kf⟩ := HK6.out.cells
            have hgl6 := HG6.out.lt
            have hkl6 := HK6.out.lt
            have hkg : ¬ k = g := by have := HB5.out.size; have := HK.out; omega
            cases b with
            | false =>
              have hrE : (!false || decide (N ≠ 0)) = true := rfl
              obtain ⟨w7, hw7⟩ : ∃ w7, w7 = (set3 w6 g (.bool false) (.slice A m c) (.int .i64 (R.length : Int))).drew := ⟨_, rfl⟩
              have HW7 := Lib.hid hw7
              have HQ := Lib.hid (show Q (.returned (.tuple #[.agg (dcs false (.slice A m c) R.length), .bool true])) w7 from by have h := HE.out 1; rw [hrE] at h; rw [hw7]; exact h)
              have hy : B3 w7 g (.bool false) (.slice A m c) (.int .i64 (R.length : Int)) := by rw [hw7]; exact (HG6.out.set3 _ _ _).below (below_drewN (Below.refl _ _) 1)
              obtain ⟨y0, y1, y2, _⟩ := hy.cells
              have Hy := Lib.hid (And.intro y0 (And.intro y1 y2))
              clear y0 y1 y2 hw7 hy
              go_region
              rw [← HW7.out]
              go_wp2_with fail
              obtain ⟨y0, y1, y2⟩ := Hy.out
              exact bodyPost_ret (v := .tuple #[.agg (dcs false (.slice A m c) R.length), .bool true]) (by simp [results, Tryz.results25, go_sem, y0, y1, y2]) rfl HQ.out
            | true =>
              by_cases hm0 : m = 0
              · subst hm0
                have hrE : (!true || decide (N ≠ 0)) = false := by rw [nl_eq_zero.1 HM.out.symm]; rfl
                obtain ⟨w7, hw7⟩ : ∃ w7, w7 = (set3 w6 g (.bool true) (.slice A 0 c) (.int .i64 (R.length : Int))).drew := ⟨_, rfl⟩
                have HW7 := Lib.hid hw7
                have HQ := Lib.hid (show Q (.returned (.tuple #[.agg (dcs true (.slice A 0 c) R.length), .bool false])) w7 from by have h := HE.out 1; rw [hrE] at h; rw [hw7]; exact h)
                have hy : B3 w7 g (.bool true) (.slice A 0 c) (.int .i64 (R.length : Int)) := by rw [hw7]; exact (HG6.out.set3 _ _ _).below (below_drewN (Below.refl _ _) 1)
                obtain ⟨y0, y1, y2, _⟩ := hy.cells
                have Hy := Lib.hid (And.intro y0 (And.intro y1 y2))
                clear y0 y1 y2 hw7 hy
                go_region
                rw [← HW7.out]
                go_wp2_with fail
                obtain ⟨y0, y1, y2⟩ := Hy.out
                exact bodyPost_ret (v := .tuple #[.agg (dcs true (.slice A 0 c) R.length), .bool false]) (by simp [results, Tryz.results25, go_sem, y0, y1, y2]) rfl HQ.out
              · have hmz : (m : Int) > 0 := by omega
                have hmn : 0 < m := by omega
                have hrE : (!true || decide (N ≠ 0)) = true := by have hN0 : N ≠ 0 := fun h => hm0 (by rw [HM.out, h, nl_zero]); simp [hN0]
                obtain ⟨w7, hw7⟩ : ∃ w7, w7 = (set3 w6 g (.bool true) (.slice A m c) (.int .i64 (R.length : Int))).drew := ⟨_, rfl⟩
                have HW7 := Lib.hid hw7
                have HQ := Lib.hid (show Q (.returned (.tuple #[.agg (dcs true (.slice A m c) R.length), .bool true])) w7 from by have h := HE.out 1; rw [hrE] at h; rw [hw7]; exact h)
                have hy : B3 w7 g (.bool true) (.slice A m c) (.int .i64 (R.length : Int)) := by rw [hw7]; exact (HG6.out.set3 _ _ _).below (below_drewN (Below.refl _ _) 1)
                obtain ⟨y0, y1, y2, _⟩ := hy.cells
                have Hy := Lib.hid (And.intro y0 (And.intro y1 y2))
                clear y0 y1 y2 hw7 hy
                go_region
                rw [← HW7.out]
                go_wp2_with fail
                obtain ⟨y0, y1, y2⟩ := Hy.out
                exact bodyPost_ret (v := .tuple #[.agg (dcs true (.slice A m c) R.length), .bool true]) (by simp [results, Tryz.results25, go_sem, y0, y1, y2]) rfl HQ.out
end Go.Proofs.YthodlgjfmddemaaGreatDoor.Rk
