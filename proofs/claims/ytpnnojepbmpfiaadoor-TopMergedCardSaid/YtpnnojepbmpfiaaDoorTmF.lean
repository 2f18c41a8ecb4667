/- TopMerged: what a side's hunks make of a region (side). -/
import Derived.Test.YtpnnojepbmpfiaaDoorTmE
import Derived.Test.YtpnnojepbmpfiaaDoorTmA
namespace Go.Proofs.YtpnnojepbmpfiaaDoor
open Go.RowKit

theorem Chain.less {n : Nat} : ∀ {H : List HK} {c c' : Nat}, Chain n c H → c' ≤ c → Chain n c' H
  | [], _, _, _, _ => trivial
  | _ :: _, _, _, h, hc => ⟨Nat.le_trans hc h.1, h.2⟩
theorem sideH_app (r : Nat × Nat) (x y : List HK) : sideH r (x ++ y) = sideH r x ++ sideH r y := by
  unfold sideH
  rw [List.filter_append, List.map_append]
theorem sideH_one (r : Nat × Nat) (h : HK) : sideH r [h] = if r.1 ≤ h.fr ∧ h.fin ≤ r.2 then [⟨h.fr - r.1, 0, h.old, h.new⟩] else [] := by
  unfold sideH
  by_cases hc : r.1 ≤ h.fr ∧ h.fin ≤ r.2
  · rw [if_pos hc, List.filter_cons_of_pos (by simpa using hc)]
    rfl
  · rw [if_neg hc, List.filter_cons_of_neg (by simpa using hc)]
    rfl
theorem sideH_chain {base : List ByteArray} (r : Nat × Nat) : ∀ {x : List HK} {c : Nat}, Apart base c x → Chain (r.2 - r.1) (c - r.1) (sideH r x)
  | [], _, _ => trivial
  | h :: x, c, hA => by
    have ih := sideH_chain r hA.2.2.2
    have h1 := hA.1
    have h2 : h.fin = h.fr + h.old.length := rfl
    rw [show h :: x = [h] ++ x from rfl, sideH_app, sideH_one]
    by_cases hc : r.1 ≤ h.fr ∧ h.fin ≤ r.2
    · rw [if_pos hc]
      have e : (⟨h.fr - r.1, 0, h.old, h.new⟩ : HK).fin = h.fr - r.1 + h.old.length := rfl
      exact ⟨by show c - r.1 ≤ h.fr - r.1; omega, by rw [e]; omega, ih.less (by rw [e]; omega)⟩
    · rw [if_neg hc]
      exact ih.less (by omega)
def newsum : List HK → Nat
  | [] => 0
  | h :: r => h.new.length + newsum r
theorem newsum_app : ∀ (x y : List HK), newsum (x ++ y) = newsum x + newsum y
  | [], y => by simp [newsum]
  | h :: x, y => by simp only [List.cons_append, newsum, newsum_app x y]; omega
theorem newsum_rep (l : List ByteArray) : ∀ (H : List HK) (c : Nat), newsum H ≤ (repL l c H).length
  | [], _ => Nat.zero_le _
  | h :: r, c => by
    have := newsum_rep l r h.fin
    show h.new.length + newsum r ≤ ((l.drop c).take (h.fr - c) ++ h.new ++ repL l h.fin r).length
    simp only [List.length_append]
    omega
theorem newsum_side (r : Nat × Nat) : ∀ (x : List HK), newsum (sideH r x) ≤ newsum x
  | [] => Nat.le_refl _
  | h :: x => by
    have ih := newsum_side r x
    rw [show h :: x = [h] ++ x from rfl, sideH_app, sideH_one, newsum_app, newsum_app]
    split
    · show h.new.length + 0 + _ ≤ h.new.length + 0 + _
      omega
    · show 0 + _ ≤ h.new.length + 0 + _
      omega
theorem repL_len {l : List ByteArray} : ∀ {H : List HK} {c : Nat}, Chain l.length c H → c ≤ l.length → (repL l c H).length + c ≤ l.length + newsum H
  | [], c, _, hc => by
    show (l.drop c).length + c ≤ l.length + 0
    rw [List.length_drop]
    omega
  | h :: r, c, hC, hc => by
    have ih := repL_len hC.2.2 hC.2.1
    have h1 := hC.1
    have h2 : h.fr ≤ h.fin := Nat.le_add_right _ _
    show ((l.drop c).take (h.fr - c) ++ h.new ++ repL l h.fin r).length + c ≤ l.length + (h.new.length + newsum r)
    have h3 : ((l.drop c).take (h.fr - c)).length ≤ h.fr - c := by rw [List.length_take]; exact Nat.min_le_left _ _
    simp only [List.length_append]
    omega
theorem sideT_len {base : List ByteArray} {r : Nat × Nat} {x : List HK} (hA : Apart base 0 x) (h1 : r.1 ≤ r.2) (h2 : r.2 ≤ base.length) : (sideT base r x).length ≤ base.length + newsum x := by
  have hl : ((base.drop r.1).take (r.2 - r.1)).length = r.2 - r.1 := by rw [List.length_take, List.length_drop]; omega
  have hc := sideH_chain r hA
  rw [← hl, Nat.zero_sub] at hc
  have := repL_len hc (Nat.zero_le _)
  have h3 := newsum_side r x
  unfold sideT
  omega
theorem OutH.own' {w0 wx : World} {vo : Value} {E : List EV} (h : OutH w0 vo E wx) : wx.ownsRow w0.heap.size 68 4 vo E.length (prE E) := h.own
theorem hs6 {w1 W : World} {g rb : Nat} {v0 v1 v2 v3 u0 u1 : Value} (hb : Below w1.heap.size w1 W) (h : (g < w1.heap.size ∧ rb < w1.heap.size) ∧ w1.cell? ⟨g, 0, none⟩ = some v0 ∧ w1.cell? ⟨g, 1, none⟩ = some v1 ∧ w1.cell? ⟨g, 2, none⟩ = some v2 ∧ w1.cell? ⟨g, 3, none⟩ = some v3 ∧ w1.cell? ⟨rb, 0, none⟩ = some u0 ∧ w1.cell? ⟨rb, 1, none⟩ = some u1) :
    W.cell? ⟨g, 0, none⟩ = some v0 ∧ W.cell? ⟨g, 1, none⟩ = some v1 ∧ W.cell? ⟨g, 2, none⟩ = some v2 ∧ W.cell? ⟨g, 3, none⟩ = some v3 ∧ W.cell? ⟨rb, 0, none⟩ = some u0 ∧ W.cell? ⟨rb, 1, none⟩ = some u1 := by
  obtain ⟨⟨l1, l2⟩, h0, h1, h2, h3, h4, h5⟩ := h
  have hc : ∀ k i, k < w1.heap.size → W.cell? ⟨k, i, none⟩ = w1.cell? ⟨k, i, none⟩ := fun k i hk => hb.cell (p := ⟨k, i, none⟩) hk
  exact ⟨(hc _ _ l1).trans h0, (hc _ _ l1).trans h1, (hc _ _ l1).trans h2, (hc _ _ l1).trans h3, (hc _ _ l2).trans h4, (hc _ _ l2).trans h5⟩
/-- what side gives -/
def SideP (base : List ByteArray) (r : Nat × Nat) (x : List HK) (w : World) (e : Ending) (w' : World) : Prop :=
  ∃ v, e = .returned (.tuple #[v, .bool (decide (sideH r x ≠ []))]) ∧ w'.ownsRow w.heap.size 9 1 v (sideT base r x).length ((sideT base r x).map Value.string) ∧ Below w.heap.size w w'
set_option maxRecDepth 100000 in
set_option maxHeartbeats 6400000 in
theorem side_any (base : List ByteArray) (x : List HK) (r1 r2 : Nat) (vb vx : Value) (w : World) (hb : SL w vb base) (hx : HL w vx x) (hA : Apart base 0 x) (h1 : r1 ≤ r2) (h2 : r2 ≤ base.length) (hbl : base.length ≤ 1000) (hxl : x.length ≤ 1001) (hns : newsum x ≤ 100000) :
    Calls Tryd.prog 15 #[.agg #[.int .i64 (r1 : Int), .int .i64 (r2 : Int)], vb, vx] w (SideP base (r1, r2) x w) := by
  obtain ⟨Q, hQ⟩ : ∃ Q, SideP base (r1, r2) x w = Q := ⟨_, rfl⟩
  rw [hQ]
  have HQ := Lib.hid hQ
  obtain ⟨A, n, ca, rfl⟩ : ∃ A n c, vb = .slice A n c := by obtain ⟨A, c, rfl, _⟩ := hb; exact ⟨_, _, _, rfl⟩
  obtain ⟨B, k, cb, rfl⟩ : ∃ A n c, vx = .slice A n c := by obtain ⟨E, ⟨A, c, rfl, _⟩, _⟩ := hx; exact ⟨_, _, _, rfl⟩
  have hnl := hb.len
  obtain ⟨hkH, hkc, _⟩ := hx.at
  have hnc : n ≤ ca := by obtain ⟨_, _, e, hc, _⟩ := hb; injection e with e1 e2 e3; omega
  have HN := Lib.hid (And.intro hnl hkH)
  have HSl := Lib.hid hb
  have HH := Lib.hid hx
  have HA := Lib.hid (And.intro hA hns)
  have hk2 : k ≤ 1001 := by omega
  have hn2 : n ≤ 1000 := by omega
  have hr2 : r2 ≤ n := by omega
  have hal := (Below.refl w.heap.size w).alloc (Nat.le_refl _) (.cells #[.int .i64 (r1 : Int), .int .i64 (r2 : Int)] 51)
  have hbx := Blk.new w 51 #[.int .i64 (r1 : Int), .int .i64 (r2 : Int)] rfl
  have HAl := Lib.hid hal
  have HBx := Lib.hid hbx
  clear hQ hb hx hA hnl hkH hkc hns hal hbx
  go_enter Tryd.func15, Tryd.ntmps15
  go_wp2_with fail
  generalize w.alloc (.cells #[.int .i64 (r1 : Int), .int .i64 (r2 : Int)] 51) = w1 at *
  obtain ⟨rb, hrb⟩ : ∃ rb, rb = w.heap.size := ⟨_, rfl⟩
  rw [← hrb] at HBx HAl ⊢
  have HRB := Lib.hid hrb
  clear hrb
  have hrl : rb < w1.heap.size := (Array.getElem?_eq_some_iff.1 HBx.out).1
  go_loopw [8, 13] (fun s8 s13 wr => ∃ (i : Nat) (vo : Value) (E : List EV), s8 = vo ∧ s13 = .int .i64 (i : Int) ∧ Hid (i ≤ k) ∧ Hid (OutH w1 vo E wr) ∧ Hid (AreHK w E (sideH (r1, r2) (x.take i)))) (fun _ s13 _ => k - (intOf s13).toNat)
  case atStart => exact ⟨0, _, [], rfl, rfl, Lib.hid (Nat.zero_le _), Lib.hid (OutH.start (Below.refl _ _)), Lib.hid .nil⟩
  case round =>
    obtain ⟨i, vo, E, rfl, rfl, HI, HO, HE⟩ := hrel
    by_cases hlt : i < k
    · have hltz : (i : Int) < (k : Int) := by omega
      have hiH : i < x.length := by rw [← HN.out.2]; exact hlt
      obtain ⟨b, off, e, rfl, hbl', he, q0, q1, q2, q3⟩ := HH.out.at.2.2 i hiH
      have hbw := HAl.out.trans (HO.out.below.mono (HRB.out ▸ HAl.out.size))
      rw [HRB.out] at hbw
      have c0 := (hbw.cell (p := ⟨b, off + i * 4, none⟩) hbl').trans q0
      have c1 := (hbw.cell (p := ⟨b, off + i * 4 + 1, none⟩) hbl').trans q1
      have c2 := (hbw.cell (p := ⟨b, off + i * 4 + 2, none⟩) hbl').trans q2
      have c3 := (hbw.cell (p := ⟨b, off + i * 4 + 3, none⟩) hbl').trans q3
      have HTk := Lib.hid (show sideH (r1, r2) (x.take (i + 1)) = sideH (r1, r2) (x.take i) ++ sideH (r1, r2) [x[i]] by rw [← sideH_app, List.take_append_getElem hiH])
      have HBw := Lib.hid hbw
      have HK := Lib.hid he
      have HFin := Lib.hid (apart_after HA.out.1 _ (List.getElem_mem hiH))
      clear q0 q1 q2 q3 he hbw
      generalize x[i] = h at *
      obtain ⟨x0, x1, ⟨xA, xn, xc⟩, ⟨yA, yn, yc⟩⟩ := e
      have hx0 := HK.out.fr
      dsimp only [k0, k1, k2, k3] at hx0 c0 c1 c2 c3
      subst hx0
      go_upto_region 5 with fail
      have hal := (Below.refl wr.heap.size wr).alloc (Nat.le_refl _) (.cells #[.int .i64 (h.fr : Int), .int .i64 x1, .slice xA xn xc, .slice yA yn yc] 68)
      have hbx := Blk.new wr 68 #[.int .i64 (h.fr : Int), .int .i64 x1, .slice xA xn xc, .slice yA yn yc] rfl
      have hrx := (HBx.out.keep HO.out.below).keep hal
      have HO2 := Lib.hid (HO.out.keep hal)
      have HBw2 := Lib.hid (HBw.out.trans (hal.mono HBw.out.size))
      clear hal c0 c1 c2 c3 HO HBw
      generalize wr.alloc (.cells #[.int .i64 (h.fr : Int), .int .i64 x1, .slice xA xn xc, .slice yA yn yc] 68) = w2 at *
      generalize wr.heap.size = g at *
      have HS := Lib.hid (show (g < w2.heap.size ∧ rb < w2.heap.size) ∧ w2.cell? ⟨g, 0, none⟩ = some (.int .i64 (h.fr : Int)) ∧ w2.cell? ⟨g, 1, none⟩ = some (.int .i64 x1) ∧ w2.cell? ⟨g, 2, none⟩ = some (.slice xA xn xc) ∧ w2.cell? ⟨g, 3, none⟩ = some (.slice yA yn yc) ∧ w2.cell? ⟨rb, 0, none⟩ = some (.int .i64 (r1 : Int)) ∧ w2.cell? ⟨rb, 1, none⟩ = some (.int .i64 (r2 : Int)) from ⟨⟨(Array.getElem?_eq_some_iff.1 hbx).1, (Array.getElem?_eq_some_iff.1 hrx).1⟩, (hbx.cell.1 0).trans rfl, (hbx.cell.1 1).trans rfl, (hbx.cell.1 2).trans rfl, (hbx.cell.1 3).trans rfl, (hrx.cell.1 0).trans rfl, (hrx.cell.1 1).trans rfl⟩)
      clear hbx hrx
      go_cut [28] from 17 to 28 (fun s28 wx => s28 = .bool (decide (r1 ≤ h.fr ∧ h.fin ≤ r2)) ∧ Below w2.heap.size w2 wx)
      case first =>
        by_cases hp : r1 ≤ h.fr
        · have hz : (h.fr : Int) ≥ (r1 : Int) := by omega
          have hfl := HFin.out.2
          have hfr1 : h.fr ≤ 1000000 := by have : h.fr ≤ h.fin := Nat.le_add_right _ _; omega
          have HEnd := Lib.hid (fun W hW => end_any ((h.fr : Int), x1, (xA, xn, xc), (yA, yn, yc)) h W (HK.out.keep hW) hfr1 (by have : h.old.length ≤ h.fin := Nat.le_add_left _ _; omega))
          have HP := Lib.hid hp
          go_region_held3 (fun W => W.cell? ⟨g, 0, none⟩ = some (.int .i64 (h.fr : Int)) ∧ W.cell? ⟨g, 1, none⟩ = some (.int .i64 x1) ∧ W.cell? ⟨g, 2, none⟩ = some (.slice xA xn xc) ∧ W.cell? ⟨g, 3, none⟩ = some (.slice yA yn yc) ∧ W.cell? ⟨rb, 0, none⟩ = some (.int .i64 (r1 : Int)) ∧ W.cell? ⟨rb, 1, none⟩ = some (.int .i64 (r2 : Int))) (first | (with_reducible exact hs6 hxe HS.out) | (with_reducible exact hs6 (Below.refl _ _).drew HS.out))
            (first | (go_at_call 27; refine (HEnd.out _ (HBw2.out.trans ((Below.refl _ _).drew.mono HBw2.out.size))).mono ?_; rintro e we ⟨rfl, hbe⟩; have hxe : Below w2.heap.size w2 we := below_of_drew hbe; clear hbe))
          go_wp2_with fail
          go_meet
          exact ⟨by simp [HP.out], hxe⟩
        · have hz : ¬ (h.fr : Int) ≥ (r1 : Int) := by omega
          have HP := Lib.hid hp
          have hzb : decide (r1 ≤ h.fr) = false := decide_eq_false hp
          obtain ⟨q0, q1, q2, q3, q4, q5⟩ := HS.out.2
          clear hp
          go_wp2_with fail
          go_quiet (fail)
          go_wp2_with fail
          go_meet
          exact ⟨by simp [HP.out], below_drewN (Below.refl _ _) _⟩
      case rest =>
        obtain ⟨rfl, hbc⟩ := hcut
        have HO3 := Lib.hid (HO2.out.keep hbc)
        have hs3 := hs6 hbc HS.out
        have HTk2 := Lib.hid (HTk.out.trans (congrArg (_ ++ ·) (sideH_one (r1, r2) h)))
        clear HO2 HTk
        by_cases hc : r1 ≤ h.fr ∧ h.fin ≤ r2
        · have HTk3 := Lib.hid (HTk2.out.trans (congrArg (_ ++ ·) (if_pos hc)))
          rw [decide_eq_true hc]
          have hsub : IntKind.i64.wrap ((h.fr : Int) - (r1 : Int)) = ((h.fr - r1 : Nat) : Int) := by
            have := hc.1
            have := HFin.out.2
            have : h.fr ≤ h.fin := Nat.le_add_right _ _
            rw [show (h.fr : Int) - (r1 : Int) = ((h.fr - r1 : Nat) : Int) by omega]
            exact IntWalk.i64_in _ (by omega)
          have HEl := Lib.hid (show E.length ≤ 2000 by
            have h1 := HE.out.len
            unfold sideH at h1
            rw [List.length_map] at h1
            have h2 := List.length_filter_le (fun h => decide ((r1, r2).1 ≤ h.fr ∧ h.fin ≤ (r1, r2).2)) (x.take i)
            rw [List.length_take] at h2
            omega)
          have HE3 := Lib.hid (HE.out.app (.cons (e := (((h.fr - r1 : Nat) : Int), 0, (xA, xn, xc), (yA, yn, yc))) (h := ⟨h.fr - r1, 0, h.old, h.new⟩) ⟨rfl, rfl, HK.out.old, HK.out.new⟩ .nil))
          dsimp only at HTk3
          rw [← HTk3.out] at HE3
          obtain ⟨i0, hi, hz0, hz1, hz2⟩ := info_parts hunkInfo
          obtain ⟨q0, q1, q2, q3, q4, q5⟩ := hs3
          clear hc HTk2 HTk3 HE
          go_wp2_with (at_builtin; refine wpList_append_lies _ rfl _ _ 43 rfl w1.heap.size 68 i0 _ 4 64 Tryd.underlying43 hi hz0 hz1 hz2 rfl (by decide) _ E.length _ rfl (HO3.out.keep ((Below.refl _ _).alloc (Nat.le_refl _) _)).own _ 1 1 [.int .i64 ((h.fr - r1 : Nat) : Int), .int .i64 0, .slice xA xn xc, .slice yA yn yc] rfl rfl (World.news_of_block (heap_alloc_new _ _)) (by intro u hu; simp at hu; rcases hu with rfl | rfl | rfl | rfl <;> rfl) (by decide) (by have := HEl.out; unfold maxLen; omega) (by have := HEl.out; omega) (Nat.le_trans HO3.out.below.size (by simp)) _ rfl ?_)
          intro g1 cap w9 hown9 hg9 hat9 hlt9
          have HO9 := Lib.hid ((HO3.out.keep ((Below.refl _ _).alloc (Nat.le_refl _) _)).append (e := (((h.fr - r1 : Nat) : Int), 0, (xA, xn, xc), (yA, yn, yc))) hown9 hg9)
          clear hown9 hg9 hat9 hlt9 q0 q1 q2 q3 q4 q5
          go_wp2_with fail
          exact ⟨⟨i + 1, _, _, rfl, by go_num, Lib.hid hlt, by simpa using HO9, HE3⟩, by simp [intOf]; omega⟩
        · have HTk3 := Lib.hid (HTk2.out.trans (congrArg (_ ++ ·) (if_neg hc)))
          rw [decide_eq_false hc]
          have HE3 := Lib.hid HE.out
          rw [← List.append_nil (sideH (r1, r2) (x.take i)), ← HTk3.out] at HE3
          clear hc HTk2 HTk3 HE hs3
          go_wp2_with fail
          exact ⟨⟨i + 1, _, E, rfl, by go_num, Lib.hid hlt, HO3, HE3⟩, by simp [intOf]; omega⟩
    · have hnz : ¬ (i : Int) < (k : Int) := by omega
      obtain rfl : i = k := by have := HI.out; omega
      have HE2 := Lib.hid HE.out
      rw [List.take_of_length_le (by have := HN.out; omega)] at HE2
      have q4 := ((HBx.out.keep HO.out.below).cell.1 0).trans rfl
      have q5 := ((HBx.out.keep HO.out.below).cell.1 1).trans rfl
      have hbw := HAl.out.trans (HO.out.below.mono (HRB.out ▸ HAl.out.size))
      rw [HRB.out] at hbw
      have i1 : (r1 : Int) ≤ (r2 : Int) := by omega
      have i2 : (r2 : Int) ≤ (ca : Int) := by omega
      have hll : ((base.drop r1).take (r2 - r1)).length = r2 - r1 := by rw [List.length_take, List.length_drop]; omega
      have hch := sideH_chain (r1, r2) HA.out.1
      rw [Nat.zero_sub] at hch
      have hln := sideT_len (r := (r1, r2)) HA.out.1 h1 h2
      have hEl := HE2.out.len
      have hfl : (sideH (r1, r2) x).length ≤ x.length := by
        unfold sideH
        rw [List.length_map]
        exact List.length_filter_le _ _
      have HC := Lib.hid (replaced_any ((base.drop r1).take (r2 - r1)) (sideH (r1, r2) x) _ u8 wr ((HSl.out.keep hbw).cut r1 r2 h1 h2) ⟨E, HO.out.ke, HE2.out.keep hbw⟩ (by rw [hll]; exact hch) (by omega) (by omega) (by have := HA.out.2; show (sideT base (r1, r2) x).length ≤ _; omega))
      have HBw := Lib.hid hbw
      obtain ⟨A1, hA1⟩ : ∃ y, (if ca = r1 then A else A.map (·.add r1)) = y := ⟨_, rfl⟩
      rw [hA1] at HC
      have HFl := Lib.hid (show (sideH (r1, r2) x ≠ []) ↔ 0 < E.length by
        rw [hEl]
        exact List.length_pos_iff.symm)
      obtain ⟨Ae, ce, rfl, _⟩ := HO.out.ke
      clear hll hch hln hbw hlt HI hEl hfl
      go_wp2_with fail
      refine HC.out.mono ?_
      rintro e w2 ⟨v, rfl, ho, hb⟩
      have HF := Lib.hid (show SideP base (r1, r2) x w (.returned (.tuple #[v, .bool (decide (0 < E.length))])) w2 from ⟨v, by
        rw [show decide (0 < E.length) = decide (sideH (r1, r2) x ≠ []) from (decide_eq_decide.2 HFl.out).symm], own_base ho HBw.out.size, HBw.out.trans (hb.mono HBw.out.size)⟩)
      obtain ⟨p, c, rfl⟩ := own_form ho
      clear ho hb
      go_wp2_with fail
      rw [← HQ.out]
      exact HF.out
end Go.Proofs.YtpnnojepbmpfiaaDoor
