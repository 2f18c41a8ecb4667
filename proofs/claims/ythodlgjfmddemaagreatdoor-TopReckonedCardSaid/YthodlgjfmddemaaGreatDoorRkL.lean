/- Decimals read: the program's decimals. -/
import Derived.Test.YthodlgjfmddemaaGreatDoorRkK
namespace Go.Proofs.YthodlgjfmddemaaGreatDoor.Rk
open Go.RowKit

/-- texts that lie in a row -/
def SL (w : World) (tv : Value) (ts : List (List UInt8)) : Prop := ∃ b c, tv = .slice (some ⟨b, 0, none⟩) ts.length c ∧ ts.length ≤ c ∧ b < w.heap.size ∧ ∀ i t, ts[i]? = some t → w.cell? ⟨b, i, none⟩ = some (.string (toB t))
def decErr (ts : List (List UInt8)) (sc : Int) : Int := if (∃ t ∈ ts, decOf t = none) then 1 else if (∃ t ∈ ts, ∃ d, decOf t = some d ∧ 200 < d.size) then 2 else if 0 ≤ sc ∧ sc ≤ 40 then 0 else 3
def DecsP (ts : List (List UInt8)) (sc : Int) (w : World) (e : Ending) (w' : World) : Prop :=
  ∃ vo, e = .returned (.tuple #[vo, .int .i64 (decErr ts sc)]) ∧ (decErr ts sc = 0 → ∃ vs, ts.map decOf = vs.map (fun p => some p.1) ∧ DL w vo vs w') ∧ Below w.heap.size w w'
theorem read_len {ts : List (List UInt8)} {i : Nat} {vs : List (Dec × Value)} (h : (ts.take i).map decOf = vs.map (fun p => some p.1)) (hi : i ≤ ts.length) : vs.length = i := by
  have := congrArg List.length h
  rw [List.length_map, List.length_map, List.length_take] at this
  omega
theorem read_next {ts : List (List UInt8)} {i : Nat} {vs : List (Dec × Value)} {t : List UInt8} {d : Dec} {nv : Value} (h : (ts.take i).map decOf = vs.map (fun p => some p.1)) (ht : ts[i]? = some t) (hd : decOf t = some d) : (ts.take (i + 1)).map decOf = (vs ++ [(d, nv)]).map (fun p => some p.1) := by
  obtain ⟨hlt, he⟩ := List.getElem?_eq_some_iff.1 ht
  rw [List.take_succ_eq_append_getElem hlt, he, List.map_append, h, List.map_append]
  simp [hd]
theorem read_of {ts : List (List UInt8)} {vs : List (Dec × Value)} (h : ts.map decOf = vs.map (fun p => some p.1)) {p : Dec × Value} (hp : p ∈ vs) : ∃ t ∈ ts, decOf t = some p.1 := by
  have : some p.1 ∈ ts.map decOf := by rw [h]; exact List.mem_map.2 ⟨p, hp, rfl⟩
  obtain ⟨t, ht, he⟩ := List.mem_map.1 this
  exact ⟨t, ht, he⟩
theorem read_all {ts : List (List UInt8)} {vs : List (Dec × Value)} (h : ts.map decOf = vs.map (fun p => some p.1)) {t : List UInt8} (ht : t ∈ ts) : ∃ p ∈ vs, decOf t = some p.1 := by
  have : decOf t ∈ vs.map (fun p => some p.1) := by rw [← h]; exact List.mem_map.2 ⟨t, ht, rfl⟩
  obtain ⟨p, hp, he⟩ := List.mem_map.1 this
  exact ⟨p, hp, he.symm⟩
theorem err_syntax {ts : List (List UInt8)} {sc : Int} {t : List UInt8} (ht : t ∈ ts) (h : decOf t = none) : decErr ts sc = 1 := by
  unfold decErr
  rw [if_pos ⟨t, ht, h⟩]
theorem err_none {ts : List (List UInt8)} {vs : List (Dec × Value)} (h : ts.map decOf = vs.map (fun p => some p.1)) : ¬ ∃ t ∈ ts, decOf t = none := by
  rintro ⟨t, ht, hn⟩
  obtain ⟨p, _, he⟩ := read_all h ht
  rw [hn] at he
  cases he
theorem err_large {ts : List (List UInt8)} {sc : Int} {vs : List (Dec × Value)} (h : ts.map decOf = vs.map (fun p => some p.1)) {p : Dec × Value} (hp : p ∈ vs) (hb : 200 < p.1.size) : decErr ts sc = 2 := by
  unfold decErr
  obtain ⟨t, ht, he⟩ := read_of h hp
  rw [if_neg (err_none h), if_pos ⟨t, ht, _, he, hb⟩]
theorem err_scale {ts : List (List UInt8)} {sc : Int} {vs : List (Dec × Value)} (h : ts.map decOf = vs.map (fun p => some p.1)) (hb : ∀ p ∈ vs, p.1.size ≤ 200) : decErr ts sc = if 0 ≤ sc ∧ sc ≤ 40 then 0 else 3 := by
  unfold decErr
  rw [if_neg (err_none h), if_neg]
  rintro ⟨t, ht, d, hd, hs⟩
  obtain ⟨p, hp, he⟩ := read_all h ht
  rw [he] at hd
  injection hd with hd
  have := hb p hp
  rw [hd] at this
  omega
set_option maxRecDepth 100000 in
set_option maxHeartbeats 3200000 in
theorem decimals_any (ts : List (List UInt8)) (sc : Int) (tv : Value) (w : World) (hts : SL w tv ts) (hp : Pow w) (hl : ∀ t ∈ ts, t.length ≤ 140737488355328) (hn : ts.length ≤ 1000) :
    Calls Tryz.prog 12 #[.int .i64 sc, tv] w (DecsP ts sc w) := by
  obtain ⟨tb, c, rfl, hc, htb, hcell⟩ := hts
  obtain ⟨i0, hi, hz0, hz1, hz2⟩ := info_parts infoDec
  obtain ⟨n, hnn⟩ : ∃ n, n = ts.length := ⟨_, rfl⟩
  obtain ⟨Q, hQ⟩ : ∃ Q, DecsP ts sc w = Q := ⟨_, rfl⟩
  rw [hQ]
  have HErr := Lib.hid (fun (k : Int) (W : World) (hk : decErr ts sc = k) (h0 : k ≠ 0) (hb : Below w.heap.size w W) => (show Q (.returned (.tuple #[.slice none 0 0, .int .i64 k])) W from by
    rw [← hQ]
    exact ⟨_, by rw [hk], fun h => absurd (hk.symm.trans h) h0, hb⟩))
  have HOk := Lib.hid (fun (vo : Value) (vs : List (Dec × Value)) (W : World) (hk : decErr ts sc = 0) (h : ts.map decOf = vs.map (fun p => some p.1)) (hd : DL w vo vs W) => (show Q (.returned (.tuple #[vo, .int .i64 0])) W from by
    rw [← hQ]
    exact ⟨_, by rw [hk], fun _ => ⟨vs, h, hd⟩, hd.below⟩))
  have HCell := Lib.hid hcell
  have HL := Lib.hid hl
  have HN := Lib.hid hnn
  have HP := Lib.hid hp
  have HTb := Lib.hid htb
  rw [← hnn] at hc hn ⊢
  clear hQ hcell hl hnn hp htb
  go_enter Tryz.func12, Tryz.ntmps12
  go_wp2_with fail
  go_loopw [6, 15] (fun s6 s15 wr => ∃ (i : Nat) (vs : List (Dec × Value)) (vo : Value), vo = s6 ∧ s15 = .int .i64 (i : Int) ∧ Hid (i ≤ n) ∧ Hid ((ts.take i).map decOf = vs.map (fun p => some p.1)) ∧ Hid (DL w vo vs wr)) (fun _ s15 _ => n - (intOf s15).toNat)
  case atStart => exact ⟨0, [], _, rfl, rfl, Lib.hid (Nat.zero_le _), Lib.hid rfl, Lib.hid (DL.start w)⟩
  case round =>
    obtain ⟨i, vs, vo, rfl, rfl, HI, HR, HD⟩ := hrel
    by_cases hlt : i < n
    · have hltz : (i : Int) < (n : Int) := Int.ofNat_lt.2 hlt
      obtain ⟨t, ht⟩ : ∃ t, ts[i]? = some t := ⟨_, List.getElem?_eq_getElem (by rw [← HN.out]; exact hlt)⟩
      have hct := (HD.out.below.cell (p := ⟨tb, i, none⟩) HTb.out).trans (HCell.out i t ht)
      have htm : t ∈ ts := List.mem_of_getElem? ht
      have HT := Lib.hid ht
      clear ht
      go_wp2_with fail
      refine (decimalOf_any t _ (HL.out t htm)).mono ?_
      rintro e w2 ⟨nv, d, rfl, hnv, hfr, hd, hb2⟩
      obtain ⟨A, cc, rfl, _, _⟩ := RL.form hnv
      have HD2 := Lib.hid (HD.out.keep hb2)
      have HNv := Lib.hid hnv
      have hsep : Sep vo (.slice A (nl d.n) cc) d.n := fun _ ad m c' e e2 => by
        have h1 := hfr ad m c' e
        have h2 := (HD.out.own.lt _ e2).2
        omega
      have HSep := Lib.hid hsep
      have hd' := hd
      cases hdt : decOf t with
      | none =>
        have HF := Lib.hid (HErr.out 1 (w2.alloc (.cells #[.bool d.below, .slice A (nl d.n) cc, .int .i64 (d.scale : Int)] 48)) (err_syntax htm hdt) (by decide) (HD2.out.below.trans ((box1 w2 _ _ _).mono HD2.out.below.size)))
        rw [hdt] at hd'
        clear hd hd' hb2 hnv hfr hsep hct htm hdt
        simp only [Option.isSome_none]
        go_wp2_with fail
        exact HF.out
      | some d' =>
        obtain rfl := hd d' hdt
        have HR2 := Lib.hid (read_next (nv := .slice A (nl d'.n) cc) HR.out HT.out hdt)
        have hvl := read_len HR.out (by rw [← HN.out]; exact HI.out)
        obtain ⟨w3, hw3⟩ : ∃ w3, w3 = w2.alloc (.cells #[.bool d'.below, .slice A (nl d'.n) cc, .int .i64 (d'.scale : Int)] 48) := ⟨_, rfl⟩
        have hb3 : Below w2.heap.size w2 w3 := by rw [hw3]; exact box1 _ _ _ _
        have h3 : B3 w3 w2.heap.size (.bool d'.below) (.slice A (nl d'.n) cc) (.int .i64 (d'.scale : Int)) := by rw [hw3]; exact B3.new w2 _ _ _
        obtain ⟨k, hk⟩ : ∃ k, k = w2.heap.size := ⟨_, rfl⟩
        rw [← hk] at h3
        have HW3 := Lib.hid hw3
        have HK := Lib.hid hk
        have HB3 := Lib.hid h3
        have HD3 := Lib.hid ((HD2.out.keep hb3).keep (box1 w3 (.bool d'.below) (.slice A (nl d'.n) cc) (.int .i64 (d'.scale : Int))))
        have HNv3 := Lib.hid ((hnv.keep hb3).keep (box1 w3 (.bool d'.below) (.slice A (nl d'.n) cc) (.int .i64 (d'.scale : Int))))
        have HVl := Lib.hid hvl
        clear hd hd' hb2 hnv hfr hsep hct htm hdt hb3 hw3 hk h3 HD2 HNv hvl
        simp only [Option.isSome_some]
        go_upto_region 6 with fail
        rw [← HW3.out, ← HK.out]
        obtain ⟨k0, k1, k2, kf⟩ := HB3.out.cells
        have hmx : vs.length + 1 ≤ maxLen ∧ (vs.length + 1) * 40 ≤ 140737488355328 := by have := HVl.out; unfold maxLen; omega
        have HMx := Lib.hid hmx
        clear hmx
        go_wp2_with (at_builtin; refine wpList_append_lies _ rfl _ _ 42 rfl w.heap.size 48 i0 _ 3 40 Tryz.underlying42 hi hz0 hz1 hz2 rfl (by decide) _ vs.length _ rfl HD3.out.own _ 1 1 [.bool d'.below, .slice A (nl d'.n) cc, .int .i64 (d'.scale : Int)] rfl rfl (World.news_of_block (heap_alloc_new _ _)) (by intro u hu; simp at hu; rcases hu with rfl | rfl | rfl <;> rfl) (by decide) HMx.out.1 HMx.out.2 HD3.out.below.size _ rfl ?_)
        intro g cap w6 hown6 hg6 hat6 hlt6
        have HD6 := Lib.hid (HD3.out.append HNv3.out HSep.out hown6 hg6 (hat6.imp id fun e => by rw [e]; simp))
        clear hown6 hg6 hat6 hlt6
        go_wp2_with fail
        go_roundw
        case rel => exact ⟨i + 1, _, _, rfl, by go_num, Lib.hid hlt, HR2, HD6⟩
        case measure => simp [intOf]; omega
    · have hin : i = n := by have := HI.out; omega
      have hvl := read_len HR.out (by rw [← HN.out]; exact HI.out)
      have HAll := Lib.hid (show ts.map decOf = vs.map (fun p => some p.1) by have h := HR.out; rwa [hin, HN.out, List.take_length] at h)
      have hltz : ¬ (i : Int) < (n : Int) := by omega
      obtain ⟨A, c2, rfl⟩ := HD.out.form
      obtain ⟨m, hm⟩ : ∃ m, m = vs.length := ⟨_, rfl⟩
      have HM := Lib.hid hm
      have hmn : m ≤ 1000 := by omega
      rw [← hm] at HD ⊢
      clear hin hm HR
      go_wp2_with fail
      go_loopw [33] (fun s33 wx => ∃ j : Nat, s33 = .int .i64 (j : Int) ∧ Hid (j ≤ m) ∧ Hid (DL w (.slice A m c2) vs wx) ∧ Hid (∀ p ∈ vs.take j, p.1.size ≤ 200)) (fun s33 _ => m - (intOf s33).toNat)
      case atStart => exact ⟨0, rfl, Lib.hid (Nat.zero_le _), HD, Lib.hid (fun p hp => by cases hp)⟩
      case round =>
        clear HD
        obtain ⟨j, rfl, HJ, HD, HS⟩ := hrel
        by_cases hjm : j < m
        · have hjz : (j : Int) < (m : Int) := Int.ofNat_lt.2 hjm
          obtain ⟨p, hp⟩ : ∃ p, vs[j]? = some p := ⟨_, List.getElem?_eq_getElem (by rw [← HM.out]; exact hjm)⟩
          have hpm : p ∈ vs := List.mem_of_getElem? hp
          obtain ⟨g, c', hv, hcap, x0, x1, x2, hg⟩ := HD.out.at hp
          rw [← HM.out] at hv hcap
          injection hv with e1 _ e3
          subst e1 e3
          obtain ⟨d, nv⟩ := p
          obtain ⟨hn1, _⟩ := HD.out.vals _ hpm
          dsimp only at x0 x1 x2 hn1
          obtain ⟨A3, c3, rfl, _, _⟩ := RL.form hn1
          rw [Nat.mul_comm 3 j] at x0 x1 x2
          obtain ⟨t, htm, htd⟩ := read_of HAll.out hpm
          have htl := HL.out t htm
          obtain ⟨hds0, hdl, hdsc⟩ := decOf_some htd
          clear hds0
          dsimp only at hdl hdsc
          obtain ⟨W1, hW1⟩ : ∃ W1, W1 = wr.alloc (.cells #[.bool d.below, .slice A3 (nl d.n) c3, .int .i64 (d.scale : Int)] 48) := ⟨_, rfl⟩
          have hbW : Below wr.heap.size wr W1 := by rw [hW1]; exact box1 _ _ _ _
          have h3 : B3 W1 wr.heap.size (.bool d.below) (.slice A3 (nl d.n) c3) (.int .i64 (d.scale : Int)) := by rw [hW1]; exact B3.new wr _ _ _
          obtain ⟨k, hk⟩ : ∃ k, k = wr.heap.size := ⟨_, rfl⟩
          rw [← hk] at h3
          have HSz := Lib.hid (dsize_any _ d W1 ⟨_, rfl, hn1.keep hbW⟩ ((HP.out.keep HD.out.below).keep hbW) (by omega) (nl_digs (by omega)) (by omega))
          have HD1 := Lib.hid (HD.out.keep hbW)
          have HW1 := Lib.hid hW1
          have HK := Lib.hid hk
          have HB3 := Lib.hid h3
          have HPm := Lib.hid hpm
          have HPp := Lib.hid hp
          clear hn1 htl hdl hdsc htd htm hW1 hbW h3 hk hpm hp
          go_upto_region 13 with fail
          rw [← HW1.out, ← HK.out]
          obtain ⟨k0, k1, k2, kf⟩ := HB3.out.cells
          go_wp2_with fail
          refine HSz.out.mono ?_
          rintro e w5 ⟨rfl, hb5⟩
          have HD5 := Lib.hid (HD1.out.keep hb5)
          obtain ⟨q, hq⟩ : ∃ q, q = d.size := ⟨_, rfl⟩
          rw [← hq]
          by_cases hbig : 200 < q
          · have hbz : (q : Int) > 200 := by omega
            have HF := Lib.hid (HErr.out 2 w5 (err_large HAll.out HPm.out (by dsimp only; omega)) (by decide) HD5.out.below)
            clear hb5 hbig hq k0 k1 k2 kf
            go_wp2_with fail
            exact HF.out
          · have hbz : ¬ (q : Int) > 200 := by omega
            have HS2 := Lib.hid (show ∀ p ∈ vs.take (j + 1), p.1.size ≤ 200 from fun p hp' => by
              obtain ⟨hl1, he1⟩ := List.getElem?_eq_some_iff.1 HPp.out
              rw [List.take_succ_eq_append_getElem hl1, he1] at hp'
              rcases List.mem_append.1 hp' with h | h
              · exact HS.out p h
              · rw [List.mem_singleton.1 h]; dsimp only; omega)
            clear hb5 hbig hq k0 k1 k2 kf
            go_wp2_with fail
            go_roundw
            case rel => exact ⟨j + 1, by go_num, Lib.hid hjm, HD5, HS2⟩
            case measure => simp [intOf]; omega
        · have hjz : ¬ (j : Int) < (m : Int) := by omega
          have HSa := Lib.hid (show ∀ p ∈ vs, p.1.size ≤ 200 from fun p hp' => HS.out p (by rw [List.take_of_length_le (by rw [← HM.out]; omega)]; exact hp'))
          have HE := Lib.hid (err_scale (sc := sc) HAll.out HSa.out)
          by_cases hsc : 0 ≤ sc ∧ sc ≤ 40
          · have HF := Lib.hid (HOk.out _ vs wr (by rw [HE.out, if_pos hsc]) HAll.out HD.out)
            have hdc : decide (0 ≤ sc ∧ sc ≤ 40) = true := decide_eq_true hsc
            have HWi := Lib.hid (fun W => (by have := dwithin_any sc W; rw [hdc] at this; exact this : Calls Tryz.prog 26 #[.int .i64 sc, .int .i64 0, .int .i64 40] W fun e w' => e = .returned (.bool true) ∧ W = w'))
            clear hsc hdc hjm
            go_wp2_with fail
            refine (HWi.out _).mono ?_
            rintro e w5 ⟨rfl, rfl⟩
            go_wp2_with fail
            first | exact HF.out | exact bodyPost_ret (v := .tuple #[.slice A m c2, .int .i64 0]) (by simp [results, Tryz.results12, go_sem]) rfl HF.out
          · have HF := Lib.hid (HErr.out 3 wr (by rw [HE.out, if_neg hsc]) (by decide) HD.out.below)
            have hdc : decide (0 ≤ sc ∧ sc ≤ 40) = false := decide_eq_false hsc
            have HWi := Lib.hid (fun W => (by have := dwithin_any sc W; rw [hdc] at this; exact this : Calls Tryz.prog 26 #[.int .i64 sc, .int .i64 0, .int .i64 40] W fun e w' => e = .returned (.bool false) ∧ W = w'))
            clear hsc hdc hjm
            go_wp2_with fail
            refine (HWi.out _).mono ?_
            rintro e w5 ⟨rfl, rfl⟩
            go_wp2_with fail
            first | exact HF.out | exact bodyPost_ret (v := .tuple #[.slice none 0 0, .int .i64 3]) (by simp [results, Tryz.results12, go_sem]) rfl HF.out
end Go.Proofs.YthodlgjfmddemaaGreatDoor.Rk
