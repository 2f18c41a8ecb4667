/- The reference's search in a pager: seek, for every key that is no move. -/
import Derived.Test.YtokmiommhfbkeaaGreatDoorPagerD
namespace Go.Proofs.YtokmiommhfbkeaaGreatDoor
open Go.RowKit

theorem Bx.drew {w : World} {g : Nat} {cs : Array Value} (h : Bx w g cs) : Bx w.drew g cs := h
def seekL (p : PG) (key : ByteArray) : PG × Int :=
  if key = ⟨#[110]⟩ then seekTo p p.sought 1
  else if key = ⟨#[78]⟩ then seekTo p p.sought (-1)
  else if slashB key = true then (if 201 < key.size then (zeroPG, 2) else seekTo p (if key = ⟨#[47]⟩ then p.sought else key.extract 1 key.size) 1)
  else (zeroPG, 4)
theorem seek_end {W : World} {g : Nat} {v0 v1 v2 v3 v4 n : Value} {tmps : Array Value} {R : Ending → World → Prop} (hk : Bx W g #[v0, v1, v2, v3, v4]) (h8 : tmps.getD 8 undef = .pointer (some ⟨g, 0, none⟩)) (h9 : tmps.getD 9 undef = n)
    (hR : R (.returned (.tuple #[.agg #[v0, v1, v2, v3, v4], n])) W) : bodyPost Tryz.prog Tryz.f29 R .ret { tmps := tmps, defers := [] } W := by
  obtain ⟨c, z⟩ := hk.cell
  rw [Array.getD_eq_getD_getElem?] at h8 h9
  refine bodyPost_ret (v := .tuple #[.agg #[v0, v1, v2, v3, v4], n]) ?_ rfl hR
  simp [results, Tryz.results29, go_sem, h8, h9, c]
theorem PGood.none_of {p : PG} (h : PGood p) : p.rows.length = 0 ↔ (linesL p.text).length = 0 := by
  have he : p.rows.length = p.nums.length := h.numb.1
  constructor
  · intro h0
    rcases Nat.eq_zero_or_pos (linesL p.text).length with h1 | h1
    · exact h1
    · have := List.length_pos_of_mem (h.has 0 h1); omega
  · intro h0
    rcases Nat.eq_zero_or_pos p.nums.length with h1 | h1
    · omega
    · have := h.numb.2 _ (List.getElem_mem h1); omega

set_option maxRecDepth 100000 in
set_option maxHeartbeats 1600000 in
theorem seek_other (p : PG) (key : ByteArray) (w : World) (v1 v2 : Value) (hx : MX w) (hg : PGood p) (hs1 : SL w v1 p.rows) (hi2 : IL w v2 p.nums) (hsl : slashB key = false) (f110 : (key.toList == [110]) = false) (f78 : (key.toList == [78]) = false) (hfin : seekL p key = (zeroPG, 4)) :
    Calls Tryz.prog 29 #[p.v, .string key, v1, v2] w (ScrollT w (seekL p key)) := by
  rw [hfin]
  clear hfin
  obtain ⟨A1, c1, rfl, _, _⟩ := hs1
  have HI := Lib.hid hi2
  obtain ⟨A2, c2', rfl, _, hci⟩ := hi2
  have HX := Lib.hid hx
  have hsm := hg.small.1
  obtain ⟨k, m, hk, hm, _, hm1, hm2, _⟩ := hi_of hg
  have hlen : p.rows.length ≤ 4000000000000 := (rows_len' p.text p.wide).1
  have hnl : p.nums.length ≤ 4000000000000 := (rows_len' p.text p.wide).2
  have hhigh := hg.high
  have hmost : p.most = max ((p.rows.length : Int) - (m : Int)) 0 := by unfold PG.most; rw [hm]
  obtain ⟨x4, x8⟩ := two_bx w (pgC p.text p.wide p.high p.top p.sought) zeroP
  have X4 := Lib.hid x4
  have X8 := Lib.hid x8
  have HB0 := Lib.hid (two_below' w (.cells (pgC p.text p.wide p.high p.top p.sought) 26) (.cells zeroP 26))
  clear x4 x8 hx
  have HPF := Lib.hid (fun W => (Tryz.strings_HasPrefix key ⟨#[47]⟩ W).mono fun e w' hh => show e = .returned (.bool false) ∧ w' = W from ⟨by rw [hh.1]; exact ret_bool hsl, hh.2⟩)
  clear hsl
  obtain ⟨text, wide, high, top, sought⟩ := p
  dsimp only at *
  subst hk
  subst hm
  clear X4 X8
  clear hsm hnl hhigh hmost hci hlen hg
  go_enter Tryz.func29, Tryz.ntmps29
  go_wp2_with (go_at_call 26; refine (HPF.out _).mono ?_; rintro e w' ⟨rfl, rfl⟩)
  refine seek_end (two_bx w _ _).2 rfl rfl ⟨rfl, two_below' w _ _⟩

set_option maxRecDepth 100000 in
set_option maxHeartbeats 1600000 in
theorem seek_large (p : PG) (key : ByteArray) (w : World) (v1 v2 : Value) (hx : MX w) (hg : PGood p) (hs1 : SL w v1 p.rows) (hi2 : IL w v2 p.nums) (hsl : slashB key = true) (hlg : 201 < key.size) (hkl : key.size ≤ 9223372036854775807) (f47 : (key.toList == [47]) = false) (hfin : seekL p key = (zeroPG, 2)) :
    Calls Tryz.prog 29 #[p.v, .string key, v1, v2] w (ScrollT w (seekL p key)) := by
  rw [hfin]
  clear hfin
  obtain ⟨A1, c1, rfl, _, _⟩ := hs1
  have HI := Lib.hid hi2
  obtain ⟨A2, c2', rfl, _, hci⟩ := hi2
  have HX := Lib.hid hx
  have hsm := hg.small.1
  obtain ⟨k, m, hk, hm, _, hm1, hm2, _⟩ := hi_of hg
  have hlen : p.rows.length ≤ 4000000000000 := (rows_len' p.text p.wide).1
  have hnl : p.nums.length ≤ 4000000000000 := (rows_len' p.text p.wide).2
  have hhigh := hg.high
  have hmost : p.most = max ((p.rows.length : Int) - (m : Int)) 0 := by unfold PG.most; rw [hm]
  obtain ⟨x4, x8⟩ := two_bx w (pgC p.text p.wide p.high p.top p.sought) zeroP
  have X4 := Lib.hid x4
  have X8 := Lib.hid x8
  have HB0 := Lib.hid (two_below' w (.cells (pgC p.text p.wide p.high p.top p.sought) 26) (.cells zeroP 26))
  clear x4 x8 hx
  have HPF := Lib.hid (fun W => (Tryz.strings_HasPrefix key ⟨#[47]⟩ W).mono fun e w' hh => show e = .returned (.bool true) ∧ w' = W from ⟨by rw [hh.1]; exact ret_bool hsl, hh.2⟩)
  clear hsl
  have hl1 : decide ((200 : Int) < (key.size : Int) - 1) = true := by rw [decide_eq_true_iff]; omega
  have hl2 : decide ((200 : Int) < ((key.size - 1 : Nat) : Int)) = true := by rw [decide_eq_true_iff]; omega
  have hl0 : 1 ≤ key.size := by omega
  obtain ⟨text, wide, high, top, sought⟩ := p
  dsimp only at *
  subst hk
  subst hm
  clear X4 X8
  clear hsm hnl hhigh hmost hci hlen hg
  go_enter Tryz.func29, Tryz.ntmps29
  go_wp2_with (go_at_call 26; refine (HPF.out _).mono ?_; rintro e w' ⟨rfl, rfl⟩)
  refine seek_end (two_bx w _ _).2 rfl rfl ⟨rfl, two_below' w _ _⟩

set_option maxRecDepth 100000 in
set_option maxHeartbeats 1600000 in
theorem seek_n_empty (p : PG) (key : ByteArray) (w : World) (v1 v2 : Value) (hx : MX w) (hg : PGood p) (hs1 : SL w v1 p.rows) (hi2 : IL w v2 p.nums) (hsl : slashB key = false) (f110 : (key.toList == [110]) = true) (hfin : seekL p key = seekTo p p.sought (1)) (hqs : p.sought.size ≤ 200) (hq : p.sought.toList.isEmpty = true) :
    Calls Tryz.prog 29 #[p.v, .string key, v1, v2] w (ScrollT w (seekL p key)) := by
  have hv : seekL p key = (p, 8) := by rw [hfin]; unfold seekTo; rw [if_pos (by unfold soughtL; rw [if_pos (.inr hq)]; decide)]
  rw [hv]
  clear hv hfin
  obtain ⟨A1, c1, rfl, _, _⟩ := hs1
  have HI := Lib.hid hi2
  obtain ⟨A2, c2', rfl, _, hci⟩ := hi2
  have HX := Lib.hid hx
  have hsm := hg.small.1
  obtain ⟨k, m, hk, hm, _, hm1, hm2, _⟩ := hi_of hg
  have hlen : p.rows.length ≤ 4000000000000 := (rows_len' p.text p.wide).1
  have hnl : p.nums.length ≤ 4000000000000 := (rows_len' p.text p.wide).2
  have hhigh := hg.high
  have hmost : p.most = max ((p.rows.length : Int) - (m : Int)) 0 := by unfold PG.most; rw [hm]
  obtain ⟨x4, x8⟩ := two_bx w (pgC p.text p.wide p.high p.top p.sought) zeroP
  have X4 := Lib.hid x4
  have X8 := Lib.hid x8
  have HB0 := Lib.hid (two_below' w (.cells (pgC p.text p.wide p.high p.top p.sought) 26) (.cells zeroP 26))
  clear x4 x8 hx
  have HPF := Lib.hid (fun W => (Tryz.strings_HasPrefix key ⟨#[47]⟩ W).mono fun e w' hh => show e = .returned (.bool false) ∧ w' = W from ⟨by rw [hh.1]; exact ret_bool hsl, hh.2⟩)
  clear hsl
  obtain ⟨text, wide, high, top, sought⟩ := p
  dsimp only at *
  subst hk
  subst hm
  clear X4 X8
  have hql : ¬ (200 : Int) < (sought.size : Int) := by omega
  clear hsm hnl hhigh hmost hci hlen hg
  go_enter Tryz.func29, Tryz.ntmps29
  go_wp2_with (go_at_call 26; refine (HPF.out _).mono ?_; rintro e w' ⟨rfl, rfl⟩)
  refine seek_end (two_bx w _ _).2 rfl rfl ⟨rfl, two_below' w _ _⟩

set_option maxRecDepth 100000 in
set_option maxHeartbeats 1600000 in
theorem seek_n_none (p : PG) (key : ByteArray) (w : World) (v1 v2 : Value) (hx : MX w) (hg : PGood p) (hs1 : SL w v1 p.rows) (hi2 : IL w v2 p.nums) (hsl : slashB key = false) (f110 : (key.toList == [110]) = true) (hfin : seekL p key = seekTo p p.sought (1)) (hqs : p.sought.size ≤ 200) (hq : p.sought.toList.isEmpty = false) (hz : p.rows.length = 0) :
    Calls Tryz.prog 29 #[p.v, .string key, v1, v2] w (ScrollT w (seekL p key)) := by
  have hv : seekL p key = (p, 8) := by rw [hfin]; unfold seekTo; rw [if_pos (by unfold soughtL; rw [if_pos (.inl (hg.none_of.1 hz))]; decide)]
  rw [hv]
  have hzb : ((p.rows.length : Int) == 0) = true := by rw [beq_iff_eq]; omega
  clear hv hfin
  obtain ⟨A1, c1, rfl, _, _⟩ := hs1
  have HI := Lib.hid hi2
  obtain ⟨A2, c2', rfl, _, hci⟩ := hi2
  have HX := Lib.hid hx
  have hsm := hg.small.1
  obtain ⟨k, m, hk, hm, _, hm1, hm2, _⟩ := hi_of hg
  have hlen : p.rows.length ≤ 4000000000000 := (rows_len' p.text p.wide).1
  have hnl : p.nums.length ≤ 4000000000000 := (rows_len' p.text p.wide).2
  have hhigh := hg.high
  have hmost : p.most = max ((p.rows.length : Int) - (m : Int)) 0 := by unfold PG.most; rw [hm]
  obtain ⟨x4, x8⟩ := two_bx w (pgC p.text p.wide p.high p.top p.sought) zeroP
  have X4 := Lib.hid x4
  have X8 := Lib.hid x8
  have HB0 := Lib.hid (two_below' w (.cells (pgC p.text p.wide p.high p.top p.sought) 26) (.cells zeroP 26))
  clear x4 x8 hx
  have HPF := Lib.hid (fun W => (Tryz.strings_HasPrefix key ⟨#[47]⟩ W).mono fun e w' hh => show e = .returned (.bool false) ∧ w' = W from ⟨by rw [hh.1]; exact ret_bool hsl, hh.2⟩)
  clear hsl
  obtain ⟨text, wide, high, top, sought⟩ := p
  dsimp only at *
  subst hk
  subst hm
  clear X4 X8
  have hql : ¬ (200 : Int) < (sought.size : Int) := by omega
  clear hsm hnl hhigh hmost hci hlen hg hz
  generalize PG.rows ⟨text, wide, m, k, sought⟩ = rows at *
  go_enter Tryz.func29, Tryz.ntmps29
  go_wp2_with (go_at_call 26; refine (HPF.out _).mono ?_; rintro e w' ⟨rfl, rfl⟩)
  refine seek_end (two_bx w _ _).2 rfl rfl ⟨rfl, two_below' w _ _⟩

set_option maxRecDepth 100000 in
set_option maxHeartbeats 3200000 in
theorem seek_n_main (p : PG) (key : ByteArray) (w : World) (v1 v2 : Value) (hx : MX w) (hg : PGood p) (hs1 : SL w v1 p.rows) (hi2 : IL w v2 p.nums) (hsl : slashB key = false) (f110 : (key.toList == [110]) = true) (f78 : (key.toList == [78]) = false) (hfin : seekL p key = seekTo p p.sought (1)) (hqs : p.sought.size ≤ 200) (hq : p.sought.toList.isEmpty = false) (hz : ¬ p.rows.length = 0) :
    Calls Tryz.prog 29 #[p.v, .string key, v1, v2] w (ScrollT w (seekL p key)) := by
  have hlz : ¬ (linesL p.text).length = 0 := fun h => hz (hg.none_of.2 h)
  obtain ⟨ht1, _, hn0, hn1⟩ := hg.at_top (by omega)
  obtain ⟨R, hR⟩ : ∃ R, soughtN p p.sought (1) = R := ⟨_, rfl⟩
  have hso : soughtL p p.sought (1) = if R < 0 then -1 else Lib.idxOf p.nums R := by unfold soughtL; rw [if_neg (by rw [hq]; simp; exact fun h => hlz (by rw [h]; rfl)), hR]
  have hfo : 0 ≤ R → 0 ≤ Lib.idxOf p.nums R := fun h => by rw [← hR] at h ⊢; exact hg.found h
  have HV := Lib.hid (show seekL p key = if R < 0 then (p, 8) else ({ p with sought := p.sought, top := min (max (Lib.idxOf p.nums R) 0) p.most }, 0) by
    rw [hfin]; unfold seekTo; rw [hso]
    by_cases hr : R < 0
    · simp [hr]
    · have := hfo (by omega)
      rw [if_neg hr, if_neg (by omega), if_neg hr])
  have HFO := Lib.hid hfo
  have hzb : ((p.rows.length : Int) == 0) = false := by rw [beq_eq_false_iff_ne]; omega
  generalize seekL p key = V at *
  unfold soughtN at hR
  have hsz := lines_size p.text
  have htx : p.text.toList.isEmpty = false := by
    cases h : p.text.toList.isEmpty
    · rfl
    · exact absurd (by unfold linesL; rw [h]; rfl) hlz
  have hlin : linesL p.text = Lib.splitB nl 0 (Lib.countB (trimB p.text) nl) (trimB p.text) := by unfold linesL; rw [htx]; rfl
  have hls : (linesL p.text).length ≤ 4096 := hg.small.2
  have hsm0 := hg.small.1
  have HT := Lib.hid (fun W => Tryz.strings_TrimSuffix p.text nl W (by omega))
  have HSP := Lib.hid (fun W (hb : Below w.heap.size w W) => split_any (trimB p.text) W (hx.keep hb) (by have := trimB_size p.text; omega))
  rw [← hlin] at HSP
  clear hlin htx hfin hso hfo hlz
  obtain ⟨A1, c1, rfl, _, _⟩ := hs1
  have HI := Lib.hid hi2
  obtain ⟨A2, c2', rfl, _, hci⟩ := hi2
  have HX := Lib.hid hx
  have hsm := hg.small.1
  obtain ⟨k, m, hk, hm, _, hm1, hm2, _⟩ := hi_of hg
  have hlen : p.rows.length ≤ 4000000000000 := (rows_len' p.text p.wide).1
  have hnl : p.nums.length ≤ 4000000000000 := (rows_len' p.text p.wide).2
  have hhigh := hg.high
  have hmost : p.most = max ((p.rows.length : Int) - (m : Int)) 0 := by unfold PG.most; rw [hm]
  obtain ⟨x4, x8⟩ := two_bx w (pgC p.text p.wide p.high p.top p.sought) zeroP
  have X4 := Lib.hid x4
  have X8 := Lib.hid x8
  have HB0 := Lib.hid (two_below' w (.cells (pgC p.text p.wide p.high p.top p.sought) 26) (.cells zeroP 26))
  clear x4 x8 hx
  have HPF := Lib.hid (fun W => (Tryz.strings_HasPrefix key ⟨#[47]⟩ W).mono fun e w' hh => show e = .returned (.bool false) ∧ w' = W from ⟨by rw [hh.1]; exact ret_bool hsl, hh.2⟩)
  clear hsl
  rw [hk, Int.toNat_natCast] at ht1 hR hn0 hn1
  have hgd : p.nums.getD k 0 = p.nums[k] := by rw [List.getD_eq_getElem?_getD, List.getElem?_eq_getElem ht1]; rfl
  rw [hgd] at hR hn0 hn1
  obtain ⟨m0, hm0⟩ : ∃ m0 : Nat, p.nums[k] = (m0 : Int) := ⟨p.nums[k].toNat, by omega⟩
  rw [hm0] at hR hn0 hn1
  obtain ⟨b2, off2, rfl, hl2, hcc⟩ := hci (by omega)
  have hck : w.cell? ⟨b2, off2 + k, none⟩ = some (.int .i64 m0) := by rw [hcc k ht1, hm0]
  clear hcc hci hgd hm0 hg hhigh
  obtain ⟨text, wide, high, top, sought⟩ := p
  dsimp only at *
  subst hk
  subst hm
  have HMOST := Lib.hid hmost
  clear hmost
  generalize PG.nums ⟨text, wide, m, k, sought⟩ = nums at *
  generalize PG.rows ⟨text, wide, m, k, sought⟩ = rows at *
  generalize linesL text = l at *
  have HR := Lib.hid hR
  have HSZ := Lib.hid hsz
  have hsub : IntKind.i64.wrap ((rows.length : Int) - (m : Int)) = (rows.length : Int) - (m : Int) := IntWalk.i64_in _ (by omega)
  have e1 : IntKind.i64.wrap ((m0 : Int) + 1) = (m0 : Int) + 1 := IntWalk.i64_in _ (by omega)
  have hql : ¬ (200 : Int) < (sought.size : Int) := by omega
  clear hR hsz hz
  go_enter Tryz.func29, Tryz.ntmps29
  go_wp2_with (go_at_call 26; refine (HPF.out _).mono ?_; rintro e w' ⟨rfl, rfl⟩)
  refine (HT.out _).mono ?_
  rintro e w0 ⟨he, hw⟩
  subst he; subst hw
  go_wp2_with fail
  refine (HSP.out _ (by exact HB0.out)).mono ?_
  rintro e w1 ⟨v, rfl, ⟨A, c, rfl, hc, hcell⟩, hb⟩
  have HB := Lib.hid (HB0.out.trans (hb.mono HB0.out.size))
  have K4 := Lib.hid (X4.out.keep hb)
  have K8 := Lib.hid (X8.out.keep hb)
  have hck1 : w1.cell? ⟨b2, off2 + k, none⟩ = some (.int .i64 m0) := (HB.out.cell (p := ⟨b2, off2 + k, none⟩) hl2).trans hck
  have HX1 := Lib.hid (HX.out.keep HB.out)
  obtain ⟨b3, off3, rfl, hl3, hcell⟩ := hcell (by omega)
  have HC := Lib.hid hcell
  obtain ⟨c4, z4⟩ := K4.out.cell
  clear hb hcell hck X4 X8 HT HSP HB0
  go_wp2_with fail
  go_loopw [12] (fun i wr => ∃ (n : Int) (f : Nat), i = .int .i64 n ∧ Below w1.heap.size w1 wr ∧ Hid (findL l sought (1) f n = R) ∧ l.length - n ≤ f ∧ -1 ≤ n ∧ n ≤ l.length) (fun i _ => (l.length - intOf i).toNat)
  case atStart => exact ⟨_, l.length, rfl, Below.refl _ w1, HR.out, by omega, by omega, by omega⟩
  case round =>
    obtain ⟨n, f, rfl, hbw, HF, hf, hn1', hn2'⟩ := hrel
    clear c4 z4 hck1
    have K4r := Lib.hid (K4.out.keep hbw)
    have K8r := Lib.hid (K8.out.keep hbw)
    have HBr := Lib.hid (HB.out.trans (hbw.mono HB.out.size))
    obtain ⟨c4, z4⟩ := K4r.out.cell
    obtain ⟨c8, z8⟩ := K8r.out.cell
    by_cases hin : 0 ≤ n ∧ n < l.length
    · obtain ⟨j, rfl⟩ : ∃ j : Nat, n = (j : Int) := ⟨n.toNat, by omega⟩
      have hjl : j < l.length := by omega
      obtain ⟨f, rfl⟩ : ∃ f', f = f' + 1 := ⟨f - 1, by omega⟩
      have h7 : wr.cell? ⟨b3, off3 + j, none⟩ = some (.string l[j]) := (hbw.cell (p := ⟨b3, off3 + j, none⟩) hl3).trans (HC.out j hjl)
      have hjd : decide ((j : Int) < (l.length : Int)) = true := by rw [decide_eq_true_iff]; omega
      have e2 : IntKind.i64.wrap ((j : Int) + 1) = (j : Int) + 1 := IntWalk.i64_in _ (by omega)
      have HXr := Lib.hid (HX1.out.keep hbw)
      have HBw := Lib.hid hbw
      have hs7 : l[j].size < 4294967281 := by have := HSZ.out _ (List.getElem_mem hjl); omega
      clear hin hbw
      cases hcn : Lib.contains l[j].data.toList sought.data.toList
      · have HF2 := Lib.hid ((findL_miss (f := f) (step := 1) hjl hcn).symm.trans HF.out)
        have HCC := Lib.hid (fun W (h : MX W) => (contains_any l[j] sought W h hs7).mono fun e w' hh => show e = .returned (.bool false) ∧ W = w' from ⟨by rw [hh.1, hcn], hh.2.symm⟩)
        clear hcn
        go_wp2_with fail
        refine (HCC.out _ (by exact HXr.out)).mono ?_
        rintro e w' ⟨rfl, hw⟩
        subst hw
        go_wp2_with fail
        go_roundw
        case rel => exact ⟨(j : Int) + (1), f, rfl, HBw.out, HF2.out, by omega, by omega, by omega⟩
        case measure => simp [intOf]; omega
      · have HF2 := Lib.hid ((findL_hit (f := f) (step := 1) hjl hcn).symm.trans HF.out)
        have HCC := Lib.hid (fun W (h : MX W) => (contains_any l[j] sought W h hs7).mono fun e w' hh => show e = .returned (.bool true) ∧ W = w' from ⟨by rw [hh.1, hcn], hh.2.symm⟩)
        clear hcn
        go_wp2_with fail
        refine (HCC.out _ (by exact HXr.out)).mono ?_
        rintro e w' ⟨rfl, hw⟩
        subst hw
        have hV := HV.out
        rw [← HF2.out, if_neg (by omega)] at hV
        have hi0 := HFO.out (by rw [← HF2.out]; omega)
        rw [← HF2.out] at hi0
        have HVV := Lib.hid hV
        have HI0 := Lib.hid hi0
        clear hV hi0 HV HFO
        go_wp2_with fail
        have K4s := Lib.hid (show Bx (wr.setCell ⟨w.heap.size, 4, none⟩ (.string sought)) w.heap.size (pgC text wide m k sought) from K4r.out.set_ 4 (.string sought))
        have K8s := Lib.hid (K8r.out.far (show w.heap.size + 1 ≠ w.heap.size by omega) 4 (.string sought))
        have HBs := Lib.hid (HBr.out.setCell (p := ⟨w.heap.size, 4, none⟩) (Nat.le_refl _) (.string sought))
        clear c4 z4 c8 z8
        generalize wr.setCell ⟨w.heap.size, 4, none⟩ (.string sought) = ws at *
        have HIs := Lib.hid (HI.out.keep HBs.out)
        obtain ⟨c4, z4⟩ := K4s.out.cell
        obtain ⟨c8, z8⟩ := K8s.out.cell
        go_still_tail 11, (by kernel_rfl)
        still_call (index_any nums _ j _ (by exact HIs.out) (by omega))
        repeat still_step
        refine wpStill_nil ?_
        go_wp2_with fail
        have KF := (five_bx (K8s.out.far (show w.heap.size + 1 ≠ w.heap.size by omega) 3 (.int .i64 (max 0 (min (Lib.idxOf nums j) ((rows.length : Int) - (m : Int)))))) (.string text) (.int .i64 wide) (.int .i64 m) (.int .i64 (max 0 (min (Lib.idxOf nums j) ((rows.length : Int) - (m : Int))))) (.string sought)).drew
        have HF' := (five_below (HBs.out.setCell (p := ⟨w.heap.size, 3, none⟩) (Nat.le_refl _) (.int .i64 (max 0 (min (Lib.idxOf nums j) ((rows.length : Int) - (m : Int)))))) (show w.heap.size ≤ w.heap.size + 1 by omega) (.string text) (.int .i64 wide) (.int .i64 m) (.int .i64 (max 0 (min (Lib.idxOf nums j) ((rows.length : Int) - (m : Int))))) (.string sought)).drew
        refine seek_end KF rfl rfl ⟨?_, HF'⟩
        rw [HVV.out]
        exact ret_pg (b := min (max (Lib.idxOf nums j) 0) (PG.most ⟨text, wide, m, k, sought⟩)) (by rw [HMOST.out]; have := HI0.out; omega)
    · have HBw := Lib.hid hbw
      have hR1 : R = -1 := HF.out.symm.trans (findL_out (f := f) (q := sought) (step := 1) hin)
      have hV := HV.out
      rw [hR1, if_pos (by decide)] at hV
      clear HV HFO hbw
      have hor : decide (0 ≤ n) = false ∨ (decide (0 ≤ n) = true ∧ decide (n < (l.length : Int)) = false) := by
        rw [decide_eq_false_iff_not, decide_eq_true_iff, decide_eq_false_iff_not]; omega
      clear hin
      rcases hor with hd | ⟨hd, hd2⟩
      all_goals
        go_wp2_with fail
        refine seek_end (five_bx K8r.out _ _ _ _ _) rfl rfl ⟨by rw [hV]; first | done | rfl, five_below HBr.out (by omega) _ _ _ _ _⟩

set_option maxRecDepth 100000 in
set_option maxHeartbeats 1600000 in
theorem seek_N_empty (p : PG) (key : ByteArray) (w : World) (v1 v2 : Value) (hx : MX w) (hg : PGood p) (hs1 : SL w v1 p.rows) (hi2 : IL w v2 p.nums) (hsl : slashB key = false) (f110 : (key.toList == [110]) = false) (f78 : (key.toList == [78]) = true) (hfin : seekL p key = seekTo p p.sought (-1)) (hqs : p.sought.size ≤ 200) (hq : p.sought.toList.isEmpty = true) :
    Calls Tryz.prog 29 #[p.v, .string key, v1, v2] w (ScrollT w (seekL p key)) := by
  have hv : seekL p key = (p, 8) := by rw [hfin]; unfold seekTo; rw [if_pos (by unfold soughtL; rw [if_pos (.inr hq)]; decide)]
  rw [hv]
  clear hv hfin
  obtain ⟨A1, c1, rfl, _, _⟩ := hs1
  have HI := Lib.hid hi2
  obtain ⟨A2, c2', rfl, _, hci⟩ := hi2
  have HX := Lib.hid hx
  have hsm := hg.small.1
  obtain ⟨k, m, hk, hm, _, hm1, hm2, _⟩ := hi_of hg
  have hlen : p.rows.length ≤ 4000000000000 := (rows_len' p.text p.wide).1
  have hnl : p.nums.length ≤ 4000000000000 := (rows_len' p.text p.wide).2
  have hhigh := hg.high
  have hmost : p.most = max ((p.rows.length : Int) - (m : Int)) 0 := by unfold PG.most; rw [hm]
  obtain ⟨x4, x8⟩ := two_bx w (pgC p.text p.wide p.high p.top p.sought) zeroP
  have X4 := Lib.hid x4
  have X8 := Lib.hid x8
  have HB0 := Lib.hid (two_below' w (.cells (pgC p.text p.wide p.high p.top p.sought) 26) (.cells zeroP 26))
  clear x4 x8 hx
  have HPF := Lib.hid (fun W => (Tryz.strings_HasPrefix key ⟨#[47]⟩ W).mono fun e w' hh => show e = .returned (.bool false) ∧ w' = W from ⟨by rw [hh.1]; exact ret_bool hsl, hh.2⟩)
  clear hsl
  obtain ⟨text, wide, high, top, sought⟩ := p
  dsimp only at *
  subst hk
  subst hm
  clear X4 X8
  have hql : ¬ (200 : Int) < (sought.size : Int) := by omega
  clear hsm hnl hhigh hmost hci hlen hg
  go_enter Tryz.func29, Tryz.ntmps29
  go_wp2_with (go_at_call 26; refine (HPF.out _).mono ?_; rintro e w' ⟨rfl, rfl⟩)
  refine seek_end (two_bx w _ _).2 rfl rfl ⟨rfl, two_below' w _ _⟩

set_option maxRecDepth 100000 in
set_option maxHeartbeats 1600000 in
theorem seek_N_none (p : PG) (key : ByteArray) (w : World) (v1 v2 : Value) (hx : MX w) (hg : PGood p) (hs1 : SL w v1 p.rows) (hi2 : IL w v2 p.nums) (hsl : slashB key = false) (f110 : (key.toList == [110]) = false) (f78 : (key.toList == [78]) = true) (hfin : seekL p key = seekTo p p.sought (-1)) (hqs : p.sought.size ≤ 200) (hq : p.sought.toList.isEmpty = false) (hz : p.rows.length = 0) :
    Calls Tryz.prog 29 #[p.v, .string key, v1, v2] w (ScrollT w (seekL p key)) := by
  have hv : seekL p key = (p, 8) := by rw [hfin]; unfold seekTo; rw [if_pos (by unfold soughtL; rw [if_pos (.inl (hg.none_of.1 hz))]; decide)]
  rw [hv]
  have hzb : ((p.rows.length : Int) == 0) = true := by rw [beq_iff_eq]; omega
  clear hv hfin
  obtain ⟨A1, c1, rfl, _, _⟩ := hs1
  have HI := Lib.hid hi2
  obtain ⟨A2, c2', rfl, _, hci⟩ := hi2
  have HX := Lib.hid hx
  have hsm := hg.small.1
  obtain ⟨k, m, hk, hm, _, hm1, hm2, _⟩ := hi_of hg
  have hlen : p.rows.length ≤ 4000000000000 := (rows_len' p.text p.wide).1
  have hnl : p.nums.length ≤ 4000000000000 := (rows_len' p.text p.wide).2
  have hhigh := hg.high
  have hmost : p.most = max ((p.rows.length : Int) - (m : Int)) 0 := by unfold PG.most; rw [hm]
  obtain ⟨x4, x8⟩ := two_bx w (pgC p.text p.wide p.high p.top p.sought) zeroP
  have X4 := Lib.hid x4
  have X8 := Lib.hid x8
  have HB0 := Lib.hid (two_below' w (.cells (pgC p.text p.wide p.high p.top p.sought) 26) (.cells zeroP 26))
  clear x4 x8 hx
  have HPF := Lib.hid (fun W => (Tryz.strings_HasPrefix key ⟨#[47]⟩ W).mono fun e w' hh => show e = .returned (.bool false) ∧ w' = W from ⟨by rw [hh.1]; exact ret_bool hsl, hh.2⟩)
  clear hsl
  obtain ⟨text, wide, high, top, sought⟩ := p
  dsimp only at *
  subst hk
  subst hm
  clear X4 X8
  have hql : ¬ (200 : Int) < (sought.size : Int) := by omega
  clear hsm hnl hhigh hmost hci hlen hg hz
  generalize PG.rows ⟨text, wide, m, k, sought⟩ = rows at *
  go_enter Tryz.func29, Tryz.ntmps29
  go_wp2_with (go_at_call 26; refine (HPF.out _).mono ?_; rintro e w' ⟨rfl, rfl⟩)
  refine seek_end (two_bx w _ _).2 rfl rfl ⟨rfl, two_below' w _ _⟩

set_option maxRecDepth 100000 in
set_option maxHeartbeats 3200000 in
theorem seek_N_main (p : PG) (key : ByteArray) (w : World) (v1 v2 : Value) (hx : MX w) (hg : PGood p) (hs1 : SL w v1 p.rows) (hi2 : IL w v2 p.nums) (hsl : slashB key = false) (f110 : (key.toList == [110]) = false) (f78 : (key.toList == [78]) = true) (hfin : seekL p key = seekTo p p.sought (-1)) (hqs : p.sought.size ≤ 200) (hq : p.sought.toList.isEmpty = false) (hz : ¬ p.rows.length = 0) :
    Calls Tryz.prog 29 #[p.v, .string key, v1, v2] w (ScrollT w (seekL p key)) := by
  have hlz : ¬ (linesL p.text).length = 0 := fun h => hz (hg.none_of.2 h)
  obtain ⟨ht1, _, hn0, hn1⟩ := hg.at_top (by omega)
  obtain ⟨R, hR⟩ : ∃ R, soughtN p p.sought (-1) = R := ⟨_, rfl⟩
  have hso : soughtL p p.sought (-1) = if R < 0 then -1 else Lib.idxOf p.nums R := by unfold soughtL; rw [if_neg (by rw [hq]; simp; exact fun h => hlz (by rw [h]; rfl)), hR]
  have hfo : 0 ≤ R → 0 ≤ Lib.idxOf p.nums R := fun h => by rw [← hR] at h ⊢; exact hg.found h
  have HV := Lib.hid (show seekL p key = if R < 0 then (p, 8) else ({ p with sought := p.sought, top := min (max (Lib.idxOf p.nums R) 0) p.most }, 0) by
    rw [hfin]; unfold seekTo; rw [hso]
    by_cases hr : R < 0
    · simp [hr]
    · have := hfo (by omega)
      rw [if_neg hr, if_neg (by omega), if_neg hr])
  have HFO := Lib.hid hfo
  have hzb : ((p.rows.length : Int) == 0) = false := by rw [beq_eq_false_iff_ne]; omega
  generalize seekL p key = V at *
  unfold soughtN at hR
  have hsz := lines_size p.text
  have htx : p.text.toList.isEmpty = false := by
    cases h : p.text.toList.isEmpty
    · rfl
    · exact absurd (by unfold linesL; rw [h]; rfl) hlz
  have hlin : linesL p.text = Lib.splitB nl 0 (Lib.countB (trimB p.text) nl) (trimB p.text) := by unfold linesL; rw [htx]; rfl
  have hls : (linesL p.text).length ≤ 4096 := hg.small.2
  have hsm0 := hg.small.1
  have HT := Lib.hid (fun W => Tryz.strings_TrimSuffix p.text nl W (by omega))
  have HSP := Lib.hid (fun W (hb : Below w.heap.size w W) => split_any (trimB p.text) W (hx.keep hb) (by have := trimB_size p.text; omega))
  rw [← hlin] at HSP
  clear hlin htx hfin hso hfo hlz
  obtain ⟨A1, c1, rfl, _, _⟩ := hs1
  have HI := Lib.hid hi2
  obtain ⟨A2, c2', rfl, _, hci⟩ := hi2
  have HX := Lib.hid hx
  have hsm := hg.small.1
  obtain ⟨k, m, hk, hm, _, hm1, hm2, _⟩ := hi_of hg
  have hlen : p.rows.length ≤ 4000000000000 := (rows_len' p.text p.wide).1
  have hnl : p.nums.length ≤ 4000000000000 := (rows_len' p.text p.wide).2
  have hhigh := hg.high
  have hmost : p.most = max ((p.rows.length : Int) - (m : Int)) 0 := by unfold PG.most; rw [hm]
  obtain ⟨x4, x8⟩ := two_bx w (pgC p.text p.wide p.high p.top p.sought) zeroP
  have X4 := Lib.hid x4
  have X8 := Lib.hid x8
  have HB0 := Lib.hid (two_below' w (.cells (pgC p.text p.wide p.high p.top p.sought) 26) (.cells zeroP 26))
  clear x4 x8 hx
  have HPF := Lib.hid (fun W => (Tryz.strings_HasPrefix key ⟨#[47]⟩ W).mono fun e w' hh => show e = .returned (.bool false) ∧ w' = W from ⟨by rw [hh.1]; exact ret_bool hsl, hh.2⟩)
  clear hsl
  rw [hk, Int.toNat_natCast] at ht1 hR hn0 hn1
  have hgd : p.nums.getD k 0 = p.nums[k] := by rw [List.getD_eq_getElem?_getD, List.getElem?_eq_getElem ht1]; rfl
  rw [hgd] at hR hn0 hn1
  obtain ⟨m0, hm0⟩ : ∃ m0 : Nat, p.nums[k] = (m0 : Int) := ⟨p.nums[k].toNat, by omega⟩
  rw [hm0] at hR hn0 hn1
  obtain ⟨b2, off2, rfl, hl2, hcc⟩ := hci (by omega)
  have hck : w.cell? ⟨b2, off2 + k, none⟩ = some (.int .i64 m0) := by rw [hcc k ht1, hm0]
  clear hcc hci hgd hm0 hg hhigh
  obtain ⟨text, wide, high, top, sought⟩ := p
  dsimp only at *
  subst hk
  subst hm
  have HMOST := Lib.hid hmost
  clear hmost
  generalize PG.nums ⟨text, wide, m, k, sought⟩ = nums at *
  generalize PG.rows ⟨text, wide, m, k, sought⟩ = rows at *
  generalize linesL text = l at *
  have HR := Lib.hid hR
  have HSZ := Lib.hid hsz
  have hsub : IntKind.i64.wrap ((rows.length : Int) - (m : Int)) = (rows.length : Int) - (m : Int) := IntWalk.i64_in _ (by omega)
  have e1 : IntKind.i64.wrap ((m0 : Int) + -1) = (m0 : Int) + -1 := IntWalk.i64_in _ (by omega)
  have hql : ¬ (200 : Int) < (sought.size : Int) := by omega
  clear hR hsz hz
  go_enter Tryz.func29, Tryz.ntmps29
  go_wp2_with (go_at_call 26; refine (HPF.out _).mono ?_; rintro e w' ⟨rfl, rfl⟩)
  refine (HT.out _).mono ?_
  rintro e w0 ⟨he, hw⟩
  subst he; subst hw
  go_wp2_with fail
  refine (HSP.out _ (by exact HB0.out)).mono ?_
  rintro e w1 ⟨v, rfl, ⟨A, c, rfl, hc, hcell⟩, hb⟩
  have HB := Lib.hid (HB0.out.trans (hb.mono HB0.out.size))
  have K4 := Lib.hid (X4.out.keep hb)
  have K8 := Lib.hid (X8.out.keep hb)
  have hck1 : w1.cell? ⟨b2, off2 + k, none⟩ = some (.int .i64 m0) := (HB.out.cell (p := ⟨b2, off2 + k, none⟩) hl2).trans hck
  have HX1 := Lib.hid (HX.out.keep HB.out)
  obtain ⟨b3, off3, rfl, hl3, hcell⟩ := hcell (by omega)
  have HC := Lib.hid hcell
  obtain ⟨c4, z4⟩ := K4.out.cell
  clear hb hcell hck X4 X8 HT HSP HB0
  go_wp2_with fail
  go_loopw [12] (fun i wr => ∃ (n : Int) (f : Nat), i = .int .i64 n ∧ Below w1.heap.size w1 wr ∧ Hid (findL l sought (-1) f n = R) ∧ n + 1 ≤ f ∧ -1 ≤ n ∧ n ≤ l.length) (fun i _ => (intOf i + 1).toNat)
  case atStart => exact ⟨_, l.length, rfl, Below.refl _ w1, HR.out, by omega, by omega, by omega⟩
  case round =>
    obtain ⟨n, f, rfl, hbw, HF, hf, hn1', hn2'⟩ := hrel
    clear c4 z4 hck1
    have K4r := Lib.hid (K4.out.keep hbw)
    have K8r := Lib.hid (K8.out.keep hbw)
    have HBr := Lib.hid (HB.out.trans (hbw.mono HB.out.size))
    obtain ⟨c4, z4⟩ := K4r.out.cell
    obtain ⟨c8, z8⟩ := K8r.out.cell
    by_cases hin : 0 ≤ n ∧ n < l.length
    · obtain ⟨j, rfl⟩ : ∃ j : Nat, n = (j : Int) := ⟨n.toNat, by omega⟩
      have hjl : j < l.length := by omega
      obtain ⟨f, rfl⟩ : ∃ f', f = f' + 1 := ⟨f - 1, by omega⟩
      have h7 : wr.cell? ⟨b3, off3 + j, none⟩ = some (.string l[j]) := (hbw.cell (p := ⟨b3, off3 + j, none⟩) hl3).trans (HC.out j hjl)
      have hjd : decide ((j : Int) < (l.length : Int)) = true := by rw [decide_eq_true_iff]; omega
      have e2 : IntKind.i64.wrap ((j : Int) + -1) = (j : Int) + -1 := IntWalk.i64_in _ (by omega)
      have HXr := Lib.hid (HX1.out.keep hbw)
      have HBw := Lib.hid hbw
      have hs7 : l[j].size < 4294967281 := by have := HSZ.out _ (List.getElem_mem hjl); omega
      clear hin hbw
      cases hcn : Lib.contains l[j].data.toList sought.data.toList
      · have HF2 := Lib.hid ((findL_miss (f := f) (step := -1) hjl hcn).symm.trans HF.out)
        have HCC := Lib.hid (fun W (h : MX W) => (contains_any l[j] sought W h hs7).mono fun e w' hh => show e = .returned (.bool false) ∧ W = w' from ⟨by rw [hh.1, hcn], hh.2.symm⟩)
        clear hcn
        go_wp2_with fail
        refine (HCC.out _ (by exact HXr.out)).mono ?_
        rintro e w' ⟨rfl, hw⟩
        subst hw
        go_wp2_with fail
        go_roundw
        case rel => exact ⟨(j : Int) + (-1), f, rfl, HBw.out, HF2.out, by omega, by omega, by omega⟩
        case measure => simp [intOf]; omega
      · have HF2 := Lib.hid ((findL_hit (f := f) (step := -1) hjl hcn).symm.trans HF.out)
        have HCC := Lib.hid (fun W (h : MX W) => (contains_any l[j] sought W h hs7).mono fun e w' hh => show e = .returned (.bool true) ∧ W = w' from ⟨by rw [hh.1, hcn], hh.2.symm⟩)
        clear hcn
        go_wp2_with fail
        refine (HCC.out _ (by exact HXr.out)).mono ?_
        rintro e w' ⟨rfl, hw⟩
        subst hw
        have hV := HV.out
        rw [← HF2.out, if_neg (by omega)] at hV
        have hi0 := HFO.out (by rw [← HF2.out]; omega)
        rw [← HF2.out] at hi0
        have HVV := Lib.hid hV
        have HI0 := Lib.hid hi0
        clear hV hi0 HV HFO
        go_wp2_with fail
        have K4s := Lib.hid (show Bx (wr.setCell ⟨w.heap.size, 4, none⟩ (.string sought)) w.heap.size (pgC text wide m k sought) from K4r.out.set_ 4 (.string sought))
        have K8s := Lib.hid (K8r.out.far (show w.heap.size + 1 ≠ w.heap.size by omega) 4 (.string sought))
        have HBs := Lib.hid (HBr.out.setCell (p := ⟨w.heap.size, 4, none⟩) (Nat.le_refl _) (.string sought))
        clear c4 z4 c8 z8
        generalize wr.setCell ⟨w.heap.size, 4, none⟩ (.string sought) = ws at *
        have HIs := Lib.hid (HI.out.keep HBs.out)
        obtain ⟨c4, z4⟩ := K4s.out.cell
        obtain ⟨c8, z8⟩ := K8s.out.cell
        go_still_tail 11, (by kernel_rfl)
        still_call (index_any nums _ j _ (by exact HIs.out) (by omega))
        repeat still_step
        refine wpStill_nil ?_
        go_wp2_with fail
        have KF := (five_bx (K8s.out.far (show w.heap.size + 1 ≠ w.heap.size by omega) 3 (.int .i64 (max 0 (min (Lib.idxOf nums j) ((rows.length : Int) - (m : Int)))))) (.string text) (.int .i64 wide) (.int .i64 m) (.int .i64 (max 0 (min (Lib.idxOf nums j) ((rows.length : Int) - (m : Int))))) (.string sought)).drew
        have HF' := (five_below (HBs.out.setCell (p := ⟨w.heap.size, 3, none⟩) (Nat.le_refl _) (.int .i64 (max 0 (min (Lib.idxOf nums j) ((rows.length : Int) - (m : Int)))))) (show w.heap.size ≤ w.heap.size + 1 by omega) (.string text) (.int .i64 wide) (.int .i64 m) (.int .i64 (max 0 (min (Lib.idxOf nums j) ((rows.length : Int) - (m : Int))))) (.string sought)).drew
        refine seek_end KF rfl rfl ⟨?_, HF'⟩
        rw [HVV.out]
        exact ret_pg (b := min (max (Lib.idxOf nums j) 0) (PG.most ⟨text, wide, m, k, sought⟩)) (by rw [HMOST.out]; have := HI0.out; omega)
    · have HBw := Lib.hid hbw
      have hR1 : R = -1 := HF.out.symm.trans (findL_out (f := f) (q := sought) (step := -1) hin)
      have hV := HV.out
      rw [hR1, if_pos (by decide)] at hV
      clear HV HFO hbw
      have hor : decide (0 ≤ n) = false ∨ (decide (0 ≤ n) = true ∧ decide (n < (l.length : Int)) = false) := by
        rw [decide_eq_false_iff_not, decide_eq_true_iff, decide_eq_false_iff_not]; omega
      clear hin
      rcases hor with hd | ⟨hd, hd2⟩
      all_goals
        go_wp2_with fail
        refine seek_end (five_bx K8r.out _ _ _ _ _) rfl rfl ⟨by rw [hV]; first | done | rfl, five_below HBr.out (by omega) _ _ _ _ _⟩

set_option maxRecDepth 100000 in
set_option maxHeartbeats 1600000 in
theorem seek_so_empty (p : PG) (key : ByteArray) (w : World) (v1 v2 : Value) (hx : MX w) (hg : PGood p) (hs1 : SL w v1 p.rows) (hi2 : IL w v2 p.nums) (hsl : slashB key = true) (f47 : (key.toList == [47]) = true) (hfin : seekL p key = seekTo p p.sought (1)) (hqs : p.sought.size ≤ 200) (hq : p.sought.toList.isEmpty = true) :
    Calls Tryz.prog 29 #[p.v, .string key, v1, v2] w (ScrollT w (seekL p key)) := by
  have hv : seekL p key = (p, 8) := by rw [hfin]; unfold seekTo; rw [if_pos (by unfold soughtL; rw [if_pos (.inr hq)]; decide)]
  rw [hv]
  clear hv hfin
  obtain ⟨A1, c1, rfl, _, _⟩ := hs1
  have HI := Lib.hid hi2
  obtain ⟨A2, c2', rfl, _, hci⟩ := hi2
  have HX := Lib.hid hx
  have hsm := hg.small.1
  obtain ⟨k, m, hk, hm, _, hm1, hm2, _⟩ := hi_of hg
  have hlen : p.rows.length ≤ 4000000000000 := (rows_len' p.text p.wide).1
  have hnl : p.nums.length ≤ 4000000000000 := (rows_len' p.text p.wide).2
  have hhigh := hg.high
  have hmost : p.most = max ((p.rows.length : Int) - (m : Int)) 0 := by unfold PG.most; rw [hm]
  obtain ⟨x4, x8⟩ := two_bx w (pgC p.text p.wide p.high p.top p.sought) zeroP
  have X4 := Lib.hid x4
  have X8 := Lib.hid x8
  have HB0 := Lib.hid (two_below' w (.cells (pgC p.text p.wide p.high p.top p.sought) 26) (.cells zeroP 26))
  clear x4 x8 hx
  have HPF := Lib.hid (fun W => (Tryz.strings_HasPrefix key ⟨#[47]⟩ W).mono fun e w' hh => show e = .returned (.bool true) ∧ w' = W from ⟨by rw [hh.1]; exact ret_bool hsl, hh.2⟩)
  clear hsl
  obtain ⟨text, wide, high, top, sought⟩ := p
  dsimp only at *
  subst hk
  subst hm
  clear X4 X8
  have hql : ¬ (200 : Int) < (sought.size : Int) := by omega
  clear hsm hnl hhigh hmost hci hlen hg
  go_enter Tryz.func29, Tryz.ntmps29
  go_wp2_with (go_at_call 26; refine (HPF.out _).mono ?_; rintro e w' ⟨rfl, rfl⟩)
  refine seek_end (two_bx w _ _).2 rfl rfl ⟨rfl, two_below' w _ _⟩

set_option maxRecDepth 100000 in
set_option maxHeartbeats 1600000 in
theorem seek_so_none (p : PG) (key : ByteArray) (w : World) (v1 v2 : Value) (hx : MX w) (hg : PGood p) (hs1 : SL w v1 p.rows) (hi2 : IL w v2 p.nums) (hsl : slashB key = true) (f47 : (key.toList == [47]) = true) (hfin : seekL p key = seekTo p p.sought (1)) (hqs : p.sought.size ≤ 200) (hq : p.sought.toList.isEmpty = false) (hz : p.rows.length = 0) :
    Calls Tryz.prog 29 #[p.v, .string key, v1, v2] w (ScrollT w (seekL p key)) := by
  have hv : seekL p key = (p, 8) := by rw [hfin]; unfold seekTo; rw [if_pos (by unfold soughtL; rw [if_pos (.inl (hg.none_of.1 hz))]; decide)]
  rw [hv]
  have hzb : ((p.rows.length : Int) == 0) = true := by rw [beq_iff_eq]; omega
  clear hv hfin
  obtain ⟨A1, c1, rfl, _, _⟩ := hs1
  have HI := Lib.hid hi2
  obtain ⟨A2, c2', rfl, _, hci⟩ := hi2
  have HX := Lib.hid hx
  have hsm := hg.small.1
  obtain ⟨k, m, hk, hm, _, hm1, hm2, _⟩ := hi_of hg
  have hlen : p.rows.length ≤ 4000000000000 := (rows_len' p.text p.wide).1
  have hnl : p.nums.length ≤ 4000000000000 := (rows_len' p.text p.wide).2
  have hhigh := hg.high
  have hmost : p.most = max ((p.rows.length : Int) - (m : Int)) 0 := by unfold PG.most; rw [hm]
  obtain ⟨x4, x8⟩ := two_bx w (pgC p.text p.wide p.high p.top p.sought) zeroP
  have X4 := Lib.hid x4
  have X8 := Lib.hid x8
  have HB0 := Lib.hid (two_below' w (.cells (pgC p.text p.wide p.high p.top p.sought) 26) (.cells zeroP 26))
  clear x4 x8 hx
  have HPF := Lib.hid (fun W => (Tryz.strings_HasPrefix key ⟨#[47]⟩ W).mono fun e w' hh => show e = .returned (.bool true) ∧ w' = W from ⟨by rw [hh.1]; exact ret_bool hsl, hh.2⟩)
  clear hsl
  obtain ⟨text, wide, high, top, sought⟩ := p
  dsimp only at *
  subst hk
  subst hm
  clear X4 X8
  have hql : ¬ (200 : Int) < (sought.size : Int) := by omega
  clear hsm hnl hhigh hmost hci hlen hg hz
  generalize PG.rows ⟨text, wide, m, k, sought⟩ = rows at *
  go_enter Tryz.func29, Tryz.ntmps29
  go_wp2_with (go_at_call 26; refine (HPF.out _).mono ?_; rintro e w' ⟨rfl, rfl⟩)
  refine seek_end (two_bx w _ _).2 rfl rfl ⟨rfl, two_below' w _ _⟩

set_option maxRecDepth 100000 in
set_option maxHeartbeats 3200000 in
theorem seek_so_main (p : PG) (key : ByteArray) (w : World) (v1 v2 : Value) (hx : MX w) (hg : PGood p) (hs1 : SL w v1 p.rows) (hi2 : IL w v2 p.nums) (hsl : slashB key = true) (f47 : (key.toList == [47]) = true) (f78 : (key.toList == [78]) = false) (hfin : seekL p key = seekTo p p.sought (1)) (hqs : p.sought.size ≤ 200) (hq : p.sought.toList.isEmpty = false) (hz : ¬ p.rows.length = 0) :
    Calls Tryz.prog 29 #[p.v, .string key, v1, v2] w (ScrollT w (seekL p key)) := by
  have hlz : ¬ (linesL p.text).length = 0 := fun h => hz (hg.none_of.2 h)
  obtain ⟨ht1, _, hn0, hn1⟩ := hg.at_top (by omega)
  obtain ⟨R, hR⟩ : ∃ R, soughtN p p.sought (1) = R := ⟨_, rfl⟩
  have hso : soughtL p p.sought (1) = if R < 0 then -1 else Lib.idxOf p.nums R := by unfold soughtL; rw [if_neg (by rw [hq]; simp; exact fun h => hlz (by rw [h]; rfl)), hR]
  have hfo : 0 ≤ R → 0 ≤ Lib.idxOf p.nums R := fun h => by rw [← hR] at h ⊢; exact hg.found h
  have HV := Lib.hid (show seekL p key = if R < 0 then (p, 8) else ({ p with sought := p.sought, top := min (max (Lib.idxOf p.nums R) 0) p.most }, 0) by
    rw [hfin]; unfold seekTo; rw [hso]
    by_cases hr : R < 0
    · simp [hr]
    · have := hfo (by omega)
      rw [if_neg hr, if_neg (by omega), if_neg hr])
  have HFO := Lib.hid hfo
  have hzb : ((p.rows.length : Int) == 0) = false := by rw [beq_eq_false_iff_ne]; omega
  generalize seekL p key = V at *
  unfold soughtN at hR
  have hsz := lines_size p.text
  have htx : p.text.toList.isEmpty = false := by
    cases h : p.text.toList.isEmpty
    · rfl
    · exact absurd (by unfold linesL; rw [h]; rfl) hlz
  have hlin : linesL p.text = Lib.splitB nl 0 (Lib.countB (trimB p.text) nl) (trimB p.text) := by unfold linesL; rw [htx]; rfl
  have hls : (linesL p.text).length ≤ 4096 := hg.small.2
  have hsm0 := hg.small.1
  have HT := Lib.hid (fun W => Tryz.strings_TrimSuffix p.text nl W (by omega))
  have HSP := Lib.hid (fun W (hb : Below w.heap.size w W) => split_any (trimB p.text) W (hx.keep hb) (by have := trimB_size p.text; omega))
  rw [← hlin] at HSP
  clear hlin htx hfin hso hfo hlz
  obtain ⟨A1, c1, rfl, _, _⟩ := hs1
  have HI := Lib.hid hi2
  obtain ⟨A2, c2', rfl, _, hci⟩ := hi2
  have HX := Lib.hid hx
  have hsm := hg.small.1
  obtain ⟨k, m, hk, hm, _, hm1, hm2, _⟩ := hi_of hg
  have hlen : p.rows.length ≤ 4000000000000 := (rows_len' p.text p.wide).1
  have hnl : p.nums.length ≤ 4000000000000 := (rows_len' p.text p.wide).2
  have hhigh := hg.high
  have hmost : p.most = max ((p.rows.length : Int) - (m : Int)) 0 := by unfold PG.most; rw [hm]
  obtain ⟨x4, x8⟩ := two_bx w (pgC p.text p.wide p.high p.top p.sought) zeroP
  have X4 := Lib.hid x4
  have X8 := Lib.hid x8
  have HB0 := Lib.hid (two_below' w (.cells (pgC p.text p.wide p.high p.top p.sought) 26) (.cells zeroP 26))
  clear x4 x8 hx
  have HPF := Lib.hid (fun W => (Tryz.strings_HasPrefix key ⟨#[47]⟩ W).mono fun e w' hh => show e = .returned (.bool true) ∧ w' = W from ⟨by rw [hh.1]; exact ret_bool hsl, hh.2⟩)
  clear hsl
  rw [hk, Int.toNat_natCast] at ht1 hR hn0 hn1
  have hgd : p.nums.getD k 0 = p.nums[k] := by rw [List.getD_eq_getElem?_getD, List.getElem?_eq_getElem ht1]; rfl
  rw [hgd] at hR hn0 hn1
  obtain ⟨m0, hm0⟩ : ∃ m0 : Nat, p.nums[k] = (m0 : Int) := ⟨p.nums[k].toNat, by omega⟩
  rw [hm0] at hR hn0 hn1
  obtain ⟨b2, off2, rfl, hl2, hcc⟩ := hci (by omega)
  have hck : w.cell? ⟨b2, off2 + k, none⟩ = some (.int .i64 m0) := by rw [hcc k ht1, hm0]
  clear hcc hci hgd hm0 hg hhigh
  obtain ⟨text, wide, high, top, sought⟩ := p
  dsimp only at *
  subst hk
  subst hm
  have HMOST := Lib.hid hmost
  clear hmost
  generalize PG.nums ⟨text, wide, m, k, sought⟩ = nums at *
  generalize PG.rows ⟨text, wide, m, k, sought⟩ = rows at *
  generalize linesL text = l at *
  have HR := Lib.hid hR
  have HSZ := Lib.hid hsz
  have hsub : IntKind.i64.wrap ((rows.length : Int) - (m : Int)) = (rows.length : Int) - (m : Int) := IntWalk.i64_in _ (by omega)
  have e1 : IntKind.i64.wrap ((m0 : Int) + 1) = (m0 : Int) + 1 := IntWalk.i64_in _ (by omega)
  have hql : ¬ (200 : Int) < (sought.size : Int) := by omega
  clear hR hsz hz
  go_enter Tryz.func29, Tryz.ntmps29
  go_wp2_with (go_at_call 26; refine (HPF.out _).mono ?_; rintro e w' ⟨rfl, rfl⟩)
  refine (HT.out _).mono ?_
  rintro e w0 ⟨he, hw⟩
  subst he; subst hw
  go_wp2_with fail
  refine (HSP.out _ (by exact HB0.out)).mono ?_
  rintro e w1 ⟨v, rfl, ⟨A, c, rfl, hc, hcell⟩, hb⟩
  have HB := Lib.hid (HB0.out.trans (hb.mono HB0.out.size))
  have K4 := Lib.hid (X4.out.keep hb)
  have K8 := Lib.hid (X8.out.keep hb)
  have hck1 : w1.cell? ⟨b2, off2 + k, none⟩ = some (.int .i64 m0) := (HB.out.cell (p := ⟨b2, off2 + k, none⟩) hl2).trans hck
  have HX1 := Lib.hid (HX.out.keep HB.out)
  obtain ⟨b3, off3, rfl, hl3, hcell⟩ := hcell (by omega)
  have HC := Lib.hid hcell
  obtain ⟨c4, z4⟩ := K4.out.cell
  clear hb hcell hck X4 X8 HT HSP HB0
  go_wp2_with fail
  go_loopw [12] (fun i wr => ∃ (n : Int) (f : Nat), i = .int .i64 n ∧ Below w1.heap.size w1 wr ∧ Hid (findL l sought (1) f n = R) ∧ l.length - n ≤ f ∧ -1 ≤ n ∧ n ≤ l.length) (fun i _ => (l.length - intOf i).toNat)
  case atStart => exact ⟨_, l.length, rfl, Below.refl _ w1, HR.out, by omega, by omega, by omega⟩
  case round =>
    obtain ⟨n, f, rfl, hbw, HF, hf, hn1', hn2'⟩ := hrel
    clear c4 z4 hck1
    have K4r := Lib.hid (K4.out.keep hbw)
    have K8r := Lib.hid (K8.out.keep hbw)
    have HBr := Lib.hid (HB.out.trans (hbw.mono HB.out.size))
    obtain ⟨c4, z4⟩ := K4r.out.cell
    obtain ⟨c8, z8⟩ := K8r.out.cell
    by_cases hin : 0 ≤ n ∧ n < l.length
    · obtain ⟨j, rfl⟩ : ∃ j : Nat, n = (j : Int) := ⟨n.toNat, by omega⟩
      have hjl : j < l.length := by omega
      obtain ⟨f, rfl⟩ : ∃ f', f = f' + 1 := ⟨f - 1, by omega⟩
      have h7 : wr.cell? ⟨b3, off3 + j, none⟩ = some (.string l[j]) := (hbw.cell (p := ⟨b3, off3 + j, none⟩) hl3).trans (HC.out j hjl)
      have hjd : decide ((j : Int) < (l.length : Int)) = true := by rw [decide_eq_true_iff]; omega
      have e2 : IntKind.i64.wrap ((j : Int) + 1) = (j : Int) + 1 := IntWalk.i64_in _ (by omega)
      have HXr := Lib.hid (HX1.out.keep hbw)
      have HBw := Lib.hid hbw
      have hs7 : l[j].size < 4294967281 := by have := HSZ.out _ (List.getElem_mem hjl); omega
      clear hin hbw
      cases hcn : Lib.contains l[j].data.toList sought.data.toList
      · have HF2 := Lib.hid ((findL_miss (f := f) (step := 1) hjl hcn).symm.trans HF.out)
        have HCC := Lib.hid (fun W (h : MX W) => (contains_any l[j] sought W h hs7).mono fun e w' hh => show e = .returned (.bool false) ∧ W = w' from ⟨by rw [hh.1, hcn], hh.2.symm⟩)
        clear hcn
        go_wp2_with fail
        refine (HCC.out _ (by exact HXr.out)).mono ?_
        rintro e w' ⟨rfl, hw⟩
        subst hw
        go_wp2_with fail
        go_roundw
        case rel => exact ⟨(j : Int) + (1), f, rfl, HBw.out, HF2.out, by omega, by omega, by omega⟩
        case measure => simp [intOf]; omega
      · have HF2 := Lib.hid ((findL_hit (f := f) (step := 1) hjl hcn).symm.trans HF.out)
        have HCC := Lib.hid (fun W (h : MX W) => (contains_any l[j] sought W h hs7).mono fun e w' hh => show e = .returned (.bool true) ∧ W = w' from ⟨by rw [hh.1, hcn], hh.2.symm⟩)
        clear hcn
        go_wp2_with fail
        refine (HCC.out _ (by exact HXr.out)).mono ?_
        rintro e w' ⟨rfl, hw⟩
        subst hw
        have hV := HV.out
        rw [← HF2.out, if_neg (by omega)] at hV
        have hi0 := HFO.out (by rw [← HF2.out]; omega)
        rw [← HF2.out] at hi0
        have HVV := Lib.hid hV
        have HI0 := Lib.hid hi0
        clear hV hi0 HV HFO
        go_wp2_with fail
        have K4s := Lib.hid (show Bx (wr.setCell ⟨w.heap.size, 4, none⟩ (.string sought)) w.heap.size (pgC text wide m k sought) from K4r.out.set_ 4 (.string sought))
        have K8s := Lib.hid (K8r.out.far (show w.heap.size + 1 ≠ w.heap.size by omega) 4 (.string sought))
        have HBs := Lib.hid (HBr.out.setCell (p := ⟨w.heap.size, 4, none⟩) (Nat.le_refl _) (.string sought))
        clear c4 z4 c8 z8
        generalize wr.setCell ⟨w.heap.size, 4, none⟩ (.string sought) = ws at *
        have HIs := Lib.hid (HI.out.keep HBs.out)
        obtain ⟨c4, z4⟩ := K4s.out.cell
        obtain ⟨c8, z8⟩ := K8s.out.cell
        go_still_tail 11, (by kernel_rfl)
        still_call (index_any nums _ j _ (by exact HIs.out) (by omega))
        repeat still_step
        refine wpStill_nil ?_
        go_wp2_with fail
        have KF := (five_bx (K8s.out.far (show w.heap.size + 1 ≠ w.heap.size by omega) 3 (.int .i64 (max 0 (min (Lib.idxOf nums j) ((rows.length : Int) - (m : Int)))))) (.string text) (.int .i64 wide) (.int .i64 m) (.int .i64 (max 0 (min (Lib.idxOf nums j) ((rows.length : Int) - (m : Int))))) (.string sought)).drew
        have HF' := (five_below (HBs.out.setCell (p := ⟨w.heap.size, 3, none⟩) (Nat.le_refl _) (.int .i64 (max 0 (min (Lib.idxOf nums j) ((rows.length : Int) - (m : Int)))))) (show w.heap.size ≤ w.heap.size + 1 by omega) (.string text) (.int .i64 wide) (.int .i64 m) (.int .i64 (max 0 (min (Lib.idxOf nums j) ((rows.length : Int) - (m : Int))))) (.string sought)).drew
        refine seek_end KF rfl rfl ⟨?_, HF'⟩
        rw [HVV.out]
        exact ret_pg (b := min (max (Lib.idxOf nums j) 0) (PG.most ⟨text, wide, m, k, sought⟩)) (by rw [HMOST.out]; have := HI0.out; omega)
    · have HBw := Lib.hid hbw
      have hR1 : R = -1 := HF.out.symm.trans (findL_out (f := f) (q := sought) (step := 1) hin)
      have hV := HV.out
      rw [hR1, if_pos (by decide)] at hV
      clear HV HFO hbw
      have hor : decide (0 ≤ n) = false ∨ (decide (0 ≤ n) = true ∧ decide (n < (l.length : Int)) = false) := by
        rw [decide_eq_false_iff_not, decide_eq_true_iff, decide_eq_false_iff_not]; omega
      clear hin
      rcases hor with hd | ⟨hd, hd2⟩
      all_goals
        go_wp2_with fail
        refine seek_end (five_bx K8r.out _ _ _ _ _) rfl rfl ⟨by rw [hV]; first | done | rfl, five_below HBr.out (by omega) _ _ _ _ _⟩

set_option maxRecDepth 100000 in
set_option maxHeartbeats 1600000 in
theorem seek_sx_empty (p : PG) (key : ByteArray) (w : World) (v1 v2 : Value) (hx : MX w) (hg : PGood p) (hs1 : SL w v1 p.rows) (hi2 : IL w v2 p.nums) (hsl : slashB key = true) (hl0 : 1 ≤ key.size) (f47 : (key.toList == [47]) = false) (hfin : seekL p key = seekTo p (key.extract 1 key.size) (1)) (hqs : (key.extract 1 key.size).size ≤ 200) (hq : (key.extract 1 key.size).toList.isEmpty = true) :
    Calls Tryz.prog 29 #[p.v, .string key, v1, v2] w (ScrollT w (seekL p key)) := by
  have hv : seekL p key = (p, 8) := by rw [hfin]; unfold seekTo; rw [if_pos (by unfold soughtL; rw [if_pos (.inr hq)]; decide)]
  rw [hv]
  clear hv hfin
  obtain ⟨A1, c1, rfl, _, _⟩ := hs1
  have HI := Lib.hid hi2
  obtain ⟨A2, c2', rfl, _, hci⟩ := hi2
  have HX := Lib.hid hx
  have hsm := hg.small.1
  obtain ⟨k, m, hk, hm, _, hm1, hm2, _⟩ := hi_of hg
  have hlen : p.rows.length ≤ 4000000000000 := (rows_len' p.text p.wide).1
  have hnl : p.nums.length ≤ 4000000000000 := (rows_len' p.text p.wide).2
  have hhigh := hg.high
  have hmost : p.most = max ((p.rows.length : Int) - (m : Int)) 0 := by unfold PG.most; rw [hm]
  obtain ⟨x4, x8⟩ := two_bx w (pgC p.text p.wide p.high p.top p.sought) zeroP
  have X4 := Lib.hid x4
  have X8 := Lib.hid x8
  have HB0 := Lib.hid (two_below' w (.cells (pgC p.text p.wide p.high p.top p.sought) 26) (.cells zeroP 26))
  clear x4 x8 hx
  have HPF := Lib.hid (fun W => (Tryz.strings_HasPrefix key ⟨#[47]⟩ W).mono fun e w' hh => show e = .returned (.bool true) ∧ w' = W from ⟨by rw [hh.1]; exact ret_bool hsl, hh.2⟩)
  clear hsl
  have hqx : ¬ (200 : Int) < ((key.size - 1 : Nat) : Int) := by have h9 : (key.extract 1 key.size).size = key.size - 1 := (by simp); omega
  obtain ⟨text, wide, high, top, sought⟩ := p
  dsimp only at *
  subst hk
  subst hm
  clear X4 X8
  have hql : ¬ (200 : Int) < ((key.extract 1 key.size).size : Int) := by omega
  clear hsm hnl hhigh hmost hci hlen hg
  go_enter Tryz.func29, Tryz.ntmps29
  go_wp2_with (go_at_call 26; refine (HPF.out _).mono ?_; rintro e w' ⟨rfl, rfl⟩)
  refine seek_end (two_bx w _ _).2 rfl rfl ⟨rfl, two_below' w _ _⟩

set_option maxRecDepth 100000 in
set_option maxHeartbeats 1600000 in
theorem seek_sx_none (p : PG) (key : ByteArray) (w : World) (v1 v2 : Value) (hx : MX w) (hg : PGood p) (hs1 : SL w v1 p.rows) (hi2 : IL w v2 p.nums) (hsl : slashB key = true) (hl0 : 1 ≤ key.size) (f47 : (key.toList == [47]) = false) (hfin : seekL p key = seekTo p (key.extract 1 key.size) (1)) (hqs : (key.extract 1 key.size).size ≤ 200) (hq : (key.extract 1 key.size).toList.isEmpty = false) (hz : p.rows.length = 0) :
    Calls Tryz.prog 29 #[p.v, .string key, v1, v2] w (ScrollT w (seekL p key)) := by
  have hv : seekL p key = (p, 8) := by rw [hfin]; unfold seekTo; rw [if_pos (by unfold soughtL; rw [if_pos (.inl (hg.none_of.1 hz))]; decide)]
  rw [hv]
  have hzb : ((p.rows.length : Int) == 0) = true := by rw [beq_iff_eq]; omega
  clear hv hfin
  obtain ⟨A1, c1, rfl, _, _⟩ := hs1
  have HI := Lib.hid hi2
  obtain ⟨A2, c2', rfl, _, hci⟩ := hi2
  have HX := Lib.hid hx
  have hsm := hg.small.1
  obtain ⟨k, m, hk, hm, _, hm1, hm2, _⟩ := hi_of hg
  have hlen : p.rows.length ≤ 4000000000000 := (rows_len' p.text p.wide).1
  have hnl : p.nums.length ≤ 4000000000000 := (rows_len' p.text p.wide).2
  have hhigh := hg.high
  have hmost : p.most = max ((p.rows.length : Int) - (m : Int)) 0 := by unfold PG.most; rw [hm]
  obtain ⟨x4, x8⟩ := two_bx w (pgC p.text p.wide p.high p.top p.sought) zeroP
  have X4 := Lib.hid x4
  have X8 := Lib.hid x8
  have HB0 := Lib.hid (two_below' w (.cells (pgC p.text p.wide p.high p.top p.sought) 26) (.cells zeroP 26))
  clear x4 x8 hx
  have HPF := Lib.hid (fun W => (Tryz.strings_HasPrefix key ⟨#[47]⟩ W).mono fun e w' hh => show e = .returned (.bool true) ∧ w' = W from ⟨by rw [hh.1]; exact ret_bool hsl, hh.2⟩)
  clear hsl
  have hqx : ¬ (200 : Int) < ((key.size - 1 : Nat) : Int) := by have h9 : (key.extract 1 key.size).size = key.size - 1 := (by simp); omega
  obtain ⟨text, wide, high, top, sought⟩ := p
  dsimp only at *
  subst hk
  subst hm
  clear X4 X8
  have hql : ¬ (200 : Int) < ((key.extract 1 key.size).size : Int) := by omega
  clear hsm hnl hhigh hmost hci hlen hg hz
  generalize PG.rows ⟨text, wide, m, k, sought⟩ = rows at *
  go_enter Tryz.func29, Tryz.ntmps29
  go_wp2_with (go_at_call 26; refine (HPF.out _).mono ?_; rintro e w' ⟨rfl, rfl⟩)
  refine seek_end (two_bx w _ _).2 rfl rfl ⟨rfl, two_below' w _ _⟩

set_option maxRecDepth 100000 in
set_option maxHeartbeats 3200000 in
theorem seek_sx_main (p : PG) (key : ByteArray) (w : World) (v1 v2 : Value) (hx : MX w) (hg : PGood p) (hs1 : SL w v1 p.rows) (hi2 : IL w v2 p.nums) (hsl : slashB key = true) (hl0 : 1 ≤ key.size) (f47 : (key.toList == [47]) = false) (f78 : (key.toList == [78]) = false) (hfin : seekL p key = seekTo p (key.extract 1 key.size) (1)) (hqs : (key.extract 1 key.size).size ≤ 200) (hq : (key.extract 1 key.size).toList.isEmpty = false) (hz : ¬ p.rows.length = 0) :
    Calls Tryz.prog 29 #[p.v, .string key, v1, v2] w (ScrollT w (seekL p key)) := by
  have hlz : ¬ (linesL p.text).length = 0 := fun h => hz (hg.none_of.2 h)
  obtain ⟨ht1, _, hn0, hn1⟩ := hg.at_top (by omega)
  obtain ⟨R, hR⟩ : ∃ R, soughtN p (key.extract 1 key.size) (1) = R := ⟨_, rfl⟩
  have hso : soughtL p (key.extract 1 key.size) (1) = if R < 0 then -1 else Lib.idxOf p.nums R := by unfold soughtL; rw [if_neg (by rw [hq]; simp; exact fun h => hlz (by rw [h]; rfl)), hR]
  have hfo : 0 ≤ R → 0 ≤ Lib.idxOf p.nums R := fun h => by rw [← hR] at h ⊢; exact hg.found h
  have HV := Lib.hid (show seekL p key = if R < 0 then (p, 8) else ({ p with sought := (key.extract 1 key.size), top := min (max (Lib.idxOf p.nums R) 0) p.most }, 0) by
    rw [hfin]; unfold seekTo; rw [hso]
    by_cases hr : R < 0
    · simp [hr]
    · have := hfo (by omega)
      rw [if_neg hr, if_neg (by omega), if_neg hr])
  have HFO := Lib.hid hfo
  have hzb : ((p.rows.length : Int) == 0) = false := by rw [beq_eq_false_iff_ne]; omega
  generalize seekL p key = V at *
  unfold soughtN at hR
  have hsz := lines_size p.text
  have htx : p.text.toList.isEmpty = false := by
    cases h : p.text.toList.isEmpty
    · rfl
    · exact absurd (by unfold linesL; rw [h]; rfl) hlz
  have hlin : linesL p.text = Lib.splitB nl 0 (Lib.countB (trimB p.text) nl) (trimB p.text) := by unfold linesL; rw [htx]; rfl
  have hls : (linesL p.text).length ≤ 4096 := hg.small.2
  have hsm0 := hg.small.1
  have HT := Lib.hid (fun W => Tryz.strings_TrimSuffix p.text nl W (by omega))
  have HSP := Lib.hid (fun W (hb : Below w.heap.size w W) => split_any (trimB p.text) W (hx.keep hb) (by have := trimB_size p.text; omega))
  rw [← hlin] at HSP
  clear hlin htx hfin hso hfo hlz
  obtain ⟨A1, c1, rfl, _, _⟩ := hs1
  have HI := Lib.hid hi2
  obtain ⟨A2, c2', rfl, _, hci⟩ := hi2
  have HX := Lib.hid hx
  have hsm := hg.small.1
  obtain ⟨k, m, hk, hm, _, hm1, hm2, _⟩ := hi_of hg
  have hlen : p.rows.length ≤ 4000000000000 := (rows_len' p.text p.wide).1
  have hnl : p.nums.length ≤ 4000000000000 := (rows_len' p.text p.wide).2
  have hhigh := hg.high
  have hmost : p.most = max ((p.rows.length : Int) - (m : Int)) 0 := by unfold PG.most; rw [hm]
  obtain ⟨x4, x8⟩ := two_bx w (pgC p.text p.wide p.high p.top p.sought) zeroP
  have X4 := Lib.hid x4
  have X8 := Lib.hid x8
  have HB0 := Lib.hid (two_below' w (.cells (pgC p.text p.wide p.high p.top p.sought) 26) (.cells zeroP 26))
  clear x4 x8 hx
  have HPF := Lib.hid (fun W => (Tryz.strings_HasPrefix key ⟨#[47]⟩ W).mono fun e w' hh => show e = .returned (.bool true) ∧ w' = W from ⟨by rw [hh.1]; exact ret_bool hsl, hh.2⟩)
  clear hsl
  have hqx : ¬ (200 : Int) < ((key.size - 1 : Nat) : Int) := by have h9 : (key.extract 1 key.size).size = key.size - 1 := (by simp); omega
  rw [hk, Int.toNat_natCast] at ht1 hR hn0 hn1
  have hgd : p.nums.getD k 0 = p.nums[k] := by rw [List.getD_eq_getElem?_getD, List.getElem?_eq_getElem ht1]; rfl
  rw [hgd] at hR hn0 hn1
  obtain ⟨m0, hm0⟩ : ∃ m0 : Nat, p.nums[k] = (m0 : Int) := ⟨p.nums[k].toNat, by omega⟩
  rw [hm0] at hR hn0 hn1
  obtain ⟨b2, off2, rfl, hl2, hcc⟩ := hci (by omega)
  have hck : w.cell? ⟨b2, off2 + k, none⟩ = some (.int .i64 m0) := by rw [hcc k ht1, hm0]
  clear hcc hci hgd hm0 hg hhigh
  obtain ⟨text, wide, high, top, sought⟩ := p
  dsimp only at *
  subst hk
  subst hm
  have HMOST := Lib.hid hmost
  clear hmost
  generalize PG.nums ⟨text, wide, m, k, sought⟩ = nums at *
  generalize PG.rows ⟨text, wide, m, k, sought⟩ = rows at *
  generalize linesL text = l at *
  have HR := Lib.hid hR
  have HSZ := Lib.hid hsz
  have hsub : IntKind.i64.wrap ((rows.length : Int) - (m : Int)) = (rows.length : Int) - (m : Int) := IntWalk.i64_in _ (by omega)
  have e1 : IntKind.i64.wrap ((m0 : Int) + 1) = (m0 : Int) + 1 := IntWalk.i64_in _ (by omega)
  have hql : ¬ (200 : Int) < ((key.extract 1 key.size).size : Int) := by omega
  clear hR hsz hz
  go_enter Tryz.func29, Tryz.ntmps29
  go_wp2_with (go_at_call 26; refine (HPF.out _).mono ?_; rintro e w' ⟨rfl, rfl⟩)
  refine (HT.out _).mono ?_
  rintro e w0 ⟨he, hw⟩
  subst he; subst hw
  go_wp2_with fail
  refine (HSP.out _ (by exact HB0.out)).mono ?_
  rintro e w1 ⟨v, rfl, ⟨A, c, rfl, hc, hcell⟩, hb⟩
  have HB := Lib.hid (HB0.out.trans (hb.mono HB0.out.size))
  have K4 := Lib.hid (X4.out.keep hb)
  have K8 := Lib.hid (X8.out.keep hb)
  have hck1 : w1.cell? ⟨b2, off2 + k, none⟩ = some (.int .i64 m0) := (HB.out.cell (p := ⟨b2, off2 + k, none⟩) hl2).trans hck
  have HX1 := Lib.hid (HX.out.keep HB.out)
  obtain ⟨b3, off3, rfl, hl3, hcell⟩ := hcell (by omega)
  have HC := Lib.hid hcell
  obtain ⟨c4, z4⟩ := K4.out.cell
  clear hb hcell hck X4 X8 HT HSP HB0
  go_wp2_with fail
  go_loopw [12] (fun i wr => ∃ (n : Int) (f : Nat), i = .int .i64 n ∧ Below w1.heap.size w1 wr ∧ Hid (findL l (key.extract 1 key.size) (1) f n = R) ∧ l.length - n ≤ f ∧ -1 ≤ n ∧ n ≤ l.length) (fun i _ => (l.length - intOf i).toNat)
  case atStart => exact ⟨_, l.length, rfl, Below.refl _ w1, HR.out, by omega, by omega, by omega⟩
  case round =>
    obtain ⟨n, f, rfl, hbw, HF, hf, hn1', hn2'⟩ := hrel
    clear c4 z4 hck1
    have K4r := Lib.hid (K4.out.keep hbw)
    have K8r := Lib.hid (K8.out.keep hbw)
    have HBr := Lib.hid (HB.out.trans (hbw.mono HB.out.size))
    obtain ⟨c4, z4⟩ := K4r.out.cell
    obtain ⟨c8, z8⟩ := K8r.out.cell
    by_cases hin : 0 ≤ n ∧ n < l.length
    · obtain ⟨j, rfl⟩ : ∃ j : Nat, n = (j : Int) := ⟨n.toNat, by omega⟩
      have hjl : j < l.length := by omega
      obtain ⟨f, rfl⟩ : ∃ f', f = f' + 1 := ⟨f - 1, by omega⟩
      have h7 : wr.cell? ⟨b3, off3 + j, none⟩ = some (.string l[j]) := (hbw.cell (p := ⟨b3, off3 + j, none⟩) hl3).trans (HC.out j hjl)
      have hjd : decide ((j : Int) < (l.length : Int)) = true := by rw [decide_eq_true_iff]; omega
      have e2 : IntKind.i64.wrap ((j : Int) + 1) = (j : Int) + 1 := IntWalk.i64_in _ (by omega)
      have HXr := Lib.hid (HX1.out.keep hbw)
      have HBw := Lib.hid hbw
      have hs7 : l[j].size < 4294967281 := by have := HSZ.out _ (List.getElem_mem hjl); omega
      clear hin hbw
      cases hcn : Lib.contains l[j].data.toList (key.extract 1 key.size).data.toList
      · have HF2 := Lib.hid ((findL_miss (f := f) (step := 1) hjl hcn).symm.trans HF.out)
        have HCC := Lib.hid (fun W (h : MX W) => (contains_any l[j] (key.extract 1 key.size) W h hs7).mono fun e w' hh => show e = .returned (.bool false) ∧ W = w' from ⟨by rw [hh.1, hcn], hh.2.symm⟩)
        clear hcn
        go_wp2_with fail
        refine (HCC.out _ (by exact HXr.out)).mono ?_
        rintro e w' ⟨rfl, hw⟩
        subst hw
        go_wp2_with fail
        go_roundw
        case rel => exact ⟨(j : Int) + (1), f, rfl, HBw.out, HF2.out, by omega, by omega, by omega⟩
        case measure => simp [intOf]; omega
      · have HF2 := Lib.hid ((findL_hit (f := f) (step := 1) hjl hcn).symm.trans HF.out)
        have HCC := Lib.hid (fun W (h : MX W) => (contains_any l[j] (key.extract 1 key.size) W h hs7).mono fun e w' hh => show e = .returned (.bool true) ∧ W = w' from ⟨by rw [hh.1, hcn], hh.2.symm⟩)
        clear hcn
        go_wp2_with fail
        refine (HCC.out _ (by exact HXr.out)).mono ?_
        rintro e w' ⟨rfl, hw⟩
        subst hw
        have hV := HV.out
        rw [← HF2.out, if_neg (by omega)] at hV
        have hi0 := HFO.out (by rw [← HF2.out]; omega)
        rw [← HF2.out] at hi0
        have HVV := Lib.hid hV
        have HI0 := Lib.hid hi0
        clear hV hi0 HV HFO
        go_wp2_with fail
        have K4s := Lib.hid (show Bx (wr.setCell ⟨w.heap.size, 4, none⟩ (.string (key.extract 1 key.size))) w.heap.size (pgC text wide m k (key.extract 1 key.size)) from K4r.out.set_ 4 (.string (key.extract 1 key.size)))
        have K8s := Lib.hid (K8r.out.far (show w.heap.size + 1 ≠ w.heap.size by omega) 4 (.string (key.extract 1 key.size)))
        have HBs := Lib.hid (HBr.out.setCell (p := ⟨w.heap.size, 4, none⟩) (Nat.le_refl _) (.string (key.extract 1 key.size)))
        clear c4 z4 c8 z8
        generalize wr.setCell ⟨w.heap.size, 4, none⟩ (.string (key.extract 1 key.size)) = ws at *
        have HIs := Lib.hid (HI.out.keep HBs.out)
        obtain ⟨c4, z4⟩ := K4s.out.cell
        obtain ⟨c8, z8⟩ := K8s.out.cell
        go_still_tail 11, (by kernel_rfl)
        still_call (index_any nums _ j _ (by exact HIs.out) (by omega))
        repeat still_step
        refine wpStill_nil ?_
        go_wp2_with fail
        have KF := (five_bx (K8s.out.far (show w.heap.size + 1 ≠ w.heap.size by omega) 3 (.int .i64 (max 0 (min (Lib.idxOf nums j) ((rows.length : Int) - (m : Int)))))) (.string text) (.int .i64 wide) (.int .i64 m) (.int .i64 (max 0 (min (Lib.idxOf nums j) ((rows.length : Int) - (m : Int))))) (.string (key.extract 1 key.size))).drew
        have HF' := (five_below (HBs.out.setCell (p := ⟨w.heap.size, 3, none⟩) (Nat.le_refl _) (.int .i64 (max 0 (min (Lib.idxOf nums j) ((rows.length : Int) - (m : Int)))))) (show w.heap.size ≤ w.heap.size + 1 by omega) (.string text) (.int .i64 wide) (.int .i64 m) (.int .i64 (max 0 (min (Lib.idxOf nums j) ((rows.length : Int) - (m : Int))))) (.string (key.extract 1 key.size))).drew
        refine seek_end KF rfl rfl ⟨?_, HF'⟩
        rw [HVV.out]
        exact ret_pg (b := min (max (Lib.idxOf nums j) 0) (PG.most ⟨text, wide, m, k, sought⟩)) (by rw [HMOST.out]; have := HI0.out; omega)
    · have HBw := Lib.hid hbw
      have hR1 : R = -1 := HF.out.symm.trans (findL_out (f := f) (q := (key.extract 1 key.size)) (step := 1) hin)
      have hV := HV.out
      rw [hR1, if_pos (by decide)] at hV
      clear HV HFO hbw
      have hor : decide (0 ≤ n) = false ∨ (decide (0 ≤ n) = true ∧ decide (n < (l.length : Int)) = false) := by
        rw [decide_eq_false_iff_not, decide_eq_true_iff, decide_eq_false_iff_not]; omega
      clear hin
      rcases hor with hd | ⟨hd, hd2⟩
      all_goals
        go_wp2_with fail
        refine seek_end (five_bx K8r.out _ _ _ _ _) rfl rfl ⟨by rw [hV]; first | done | rfl, five_below HBr.out (by omega) _ _ _ _ _⟩

theorem seek_any (p : PG) (key : ByteArray) (w : World) (v1 v2 : Value) (hx : MX w) (hg : PGood p) (hs1 : SL w v1 p.rows) (hi2 : IL w v2 p.nums) (hkl : key.size ≤ 9223372036854775807) :
    Calls Tryz.prog 29 #[p.v, .string key, v1, v2] w (ScrollT w (seekL p key)) := by
  have hqs := hg.sought
  by_cases n110 : key = ⟨#[110]⟩
  · have hsl : slashB key = false := by subst n110; rfl
    have f78 : (key.toList == [78]) = false := key_ne (by subst n110; decide)
    have hfin : seekL p key = seekTo p p.sought (1) := by unfold seekL; rw [if_pos n110]
    cases hq : p.sought.toList.isEmpty
    · by_cases hz : p.rows.length = 0
      · exact seek_n_none p key w v1 v2 hx hg hs1 hi2 hsl (key_eq n110) hfin hqs hq hz
      · exact seek_n_main p key w v1 v2 hx hg hs1 hi2 hsl (key_eq n110) f78 hfin hqs hq hz
    · exact seek_n_empty p key w v1 v2 hx hg hs1 hi2 hsl (key_eq n110) hfin hqs hq
  by_cases n78 : key = ⟨#[78]⟩
  · have hsl : slashB key = false := by subst n78; rfl
    have hfin : seekL p key = seekTo p p.sought (-1) := by unfold seekL; rw [if_neg n110, if_pos n78]
    cases hq : p.sought.toList.isEmpty
    · by_cases hz : p.rows.length = 0
      · exact seek_N_none p key w v1 v2 hx hg hs1 hi2 hsl (key_ne n110) (key_eq n78) hfin hqs hq hz
      · exact seek_N_main p key w v1 v2 hx hg hs1 hi2 hsl (key_ne n110) (key_eq n78)  hfin hqs hq hz
    · exact seek_N_empty p key w v1 v2 hx hg hs1 hi2 hsl (key_ne n110) (key_eq n78) hfin hqs hq
  cases hsl : slashB key
  · exact seek_other p key w v1 v2 hx hg hs1 hi2 hsl (key_ne n110) (key_ne n78) (by unfold seekL; rw [if_neg n110, if_neg n78, if_neg (by simp [hsl])])
  by_cases hlg : 201 < key.size
  · exact seek_large p key w v1 v2 hx hg hs1 hi2 hsl hlg hkl (key_ne (by intro e; rw [e] at hlg; exact absurd hlg (by decide))) (by unfold seekL; rw [if_neg n110, if_neg n78, if_pos hsl, if_pos hlg])
  by_cases n47 : key = ⟨#[47]⟩
  · have hfin : seekL p key = seekTo p p.sought (1) := by unfold seekL; rw [if_neg n110, if_neg n78, if_pos hsl, if_neg hlg, if_pos n47]
    cases hq : p.sought.toList.isEmpty
    · by_cases hz : p.rows.length = 0
      · exact seek_so_none p key w v1 v2 hx hg hs1 hi2 hsl (key_eq n47) hfin hqs hq hz
      · exact seek_so_main p key w v1 v2 hx hg hs1 hi2 hsl (key_eq n47) (key_ne n78) hfin hqs hq hz
    · exact seek_so_empty p key w v1 v2 hx hg hs1 hi2 hsl (key_eq n47) hfin hqs hq
  · have hfin : seekL p key = seekTo p (key.extract 1 key.size) (1) := by unfold seekL; rw [if_neg n110, if_neg n78, if_pos hsl, if_neg hlg, if_neg n47]
    have hqs : (key.extract 1 key.size).size ≤ 200 := by simp; omega
    cases hq : (key.extract 1 key.size).toList.isEmpty
    · by_cases hz : p.rows.length = 0
      · exact seek_sx_none p key w v1 v2 hx hg hs1 hi2 hsl (slash_one hsl) (key_ne n47) hfin hqs hq hz
      · exact seek_sx_main p key w v1 v2 hx hg hs1 hi2 hsl (slash_one hsl) (key_ne n47) (key_ne n78) hfin hqs hq hz
    · exact seek_sx_empty p key w v1 v2 hx hg hs1 hi2 hsl (slash_one hsl) (key_ne n47) hfin hqs hq

end Go.Proofs.YtokmiommhfbkeaaGreatDoor
