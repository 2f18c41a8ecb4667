/- TopMerged: regions. -/
import Derived.Test.YtpnnojepbmpfiaaDoorTmH
namespace Go.Proofs.YtpnnojepbmpfiaaDoor
open Go.RowKit

/-- does a hunk that begins at a meet the last region? -/
def hitR (R : List (Nat × Nat)) (a : Nat) : Bool := match R.getLast? with
  | some (_, t) => decide (a ≤ t)
  | none => false
theorem hitR_snoc (L : List (Nat × Nat)) (f t a : Nat) : hitR (L ++ [(f, t)]) a = decide (a ≤ t) := by
  unfold hitR
  simp
set_option maxRecDepth 100000 in
set_option maxHeartbeats 6400000 in
theorem regions_any (x y : List HK) (vx vy : Value) (w : World) (hx : HL w vx x) (hy : HL w vy y) (hxl : x.length ≤ 1001) (hyl : y.length ≤ 1001) (hf : ∀ h ∈ x ++ y, h.fin ≤ 1000) :
    Calls Tryd.prog 13 #[vx, vy] w fun e w' => ∃ v n, e = .returned v ∧ w'.ownsRow w.heap.size 51 2 v n (prC (regsOf x y)) ∧ Below w.heap.size w w' := by
  obtain ⟨Ex, kx, ax⟩ := hx
  obtain ⟨Ey, ky, ay⟩ := hy
  have hlx := ax.len
  have hly := ay.len
  have hal := (Below.refl w.heap.size w).alloc (Nat.le_refl _) (.cells #[vx, vy] 43)
  have HC := Lib.hid (concat_any Ex Ey vx vy w.heap.size _ (BoxC.start w #[vx, vy] 43) (kx.keep hal) (ky.keep hal) (by omega) (by omega))
  have HAl := Lib.hid hal
  have HAr := Lib.hid (ax.app ay)
  have HF := Lib.hid hf
  have HLn := Lib.hid (show (Ex ++ Ey).length ≤ 2002 by rw [List.length_append]; omega)
  have HGd := Lib.hid (show ∀ e ∈ Ex ++ Ey, goodE e from fun e he => by
    obtain ⟨i, hi, rfl⟩ := List.getElem_of_mem he
    have hi2 : i < (x ++ y).length := by rw [← HAr.out.len]; exact hi
    have h1 := (HAr.out.at i hi hi2).fr
    have h2 := HF.out _ (List.getElem_mem hi2)
    have h3 : ((x ++ y)[i]).fr ≤ ((x ++ y)[i]).fin := Nat.le_add_right _ _
    unfold goodE
    omega)
  obtain ⟨Ax, cx, rfl, _⟩ := kx
  obtain ⟨Ay, cy, rfl, _⟩ := ky
  clear hal hf hlx hly ax ay hxl hyl
  go_enter Tryd.func13, Tryd.ntmps13
  go_wp2_with fail
  refine HC.out.mono ?_
  rintro e w1 ⟨vo, n, rfl, hown, hb⟩
  have HS := Lib.hid (sort_own (B := _) (w0 := w) HAl.out.size (HAl.out.trans (hb.mono HAl.out.size)) hown (by have := HLn.out; omega) HGd.out)
  clear hown hb HC HGd
  go_wp2_with fail
  refine HS.out.mono ?_
  rintro e w2 ⟨rfl, hb2, Z, hZ, hso, hke⟩
  obtain ⟨H', hpH, haH⟩ := AreHK.perm hZ HAr.out
  have HBw := Lib.hid hb2
  have HReg := Lib.hid (show regT (H'.map HK.st) = regsOf x y from regs_eq ((hpH.map HK.st).symm) (haH.sorted hso))
  have HH := Lib.hid (show HL w2 vo H' from ⟨Z, hke, haH.keep hb2⟩)
  have HHl := Lib.hid (show H'.length ≤ 2002 by have h1 := haH.len; have h2 := hZ.length_eq; have := HLn.out; omega)
  have HFin := Lib.hid (show ∀ h ∈ H', h.fin ≤ 1000 from fun h hh => HF.out h (hpH.mem_iff.2 hh))
  obtain ⟨A, c, rfl, _⟩ := hke
  obtain ⟨k, hk⟩ : ∃ k, k = Z.length := ⟨_, rfl⟩
  rw [← hk] at HH ⊢
  have hkl : k ≤ 2002 := by have h1 := HH.out.at.1; have := HHl.out; omega
  have hkc : k ≤ c := HH.out.at.2.1
  clear hb2 hZ hso hpH haH hk HAr HF HS HLn HAl
  go_wp2_with fail
  go_loopw [6, 18] (fun s6 s18 wr => ∃ (i : Nat) (vr : Value), s6 = vr ∧ s18 = .int .i64 (i : Int) ∧ Hid (i ≤ k) ∧ Hid (OutR w2 vr (regT ((H'.map HK.st).take i)) wr)) (fun _ s18 _ => k - (intOf s18).toNat)
  case atStart => exact ⟨0, _, rfl, rfl, Lib.hid (Nat.zero_le _), Lib.hid (OutR.start (Below.refl _ _))⟩
  case round =>
    obtain ⟨i, vr, rfl, rfl, HI, HO⟩ := hrel
    by_cases hlt : i < k
    · have hltz : (i : Int) < (k : Int) := by omega
      have hiH : i < H'.length := by have := HH.out.at.1; omega
      obtain ⟨b, off, e, rfl, hbl, he, q0, q1, q2, q3⟩ := HH.out.at.2.2 i hiH
      have c0 := (HO.out.below.cell (p := ⟨b, off + i * 4, none⟩) hbl).trans q0
      have c1 := (HO.out.below.cell (p := ⟨b, off + i * 4 + 1, none⟩) hbl).trans q1
      have c2 := (HO.out.below.cell (p := ⟨b, off + i * 4 + 2, none⟩) hbl).trans q2
      have c3 := (HO.out.below.cell (p := ⟨b, off + i * 4 + 3, none⟩) hbl).trans q3
      have HTk := Lib.hid (show (H'.map HK.st).take (i + 1) = (H'.map HK.st).take i ++ [H'[i].st] by
        rw [List.take_succ_eq_append_getElem (by rw [List.length_map]; exact hiH), List.getElem_map])
      have HKe := Lib.hid (he.keep HO.out.below)
      have hfin := HFin.out _ (List.getElem_mem hiH)
      have HSt := Lib.hid (regT_snoc ((H'.map HK.st).take i) H'[i].st)
      have HSn := Lib.hid (show ∀ e ∈ regT ((H'.map HK.st).take i), e.2 ≤ 1000 from regT_snd fun e he => by
        obtain ⟨h, hh, rfl⟩ := List.mem_map.1 (List.mem_of_mem_take he)
        exact HFin.out h hh)
      have HRl := Lib.hid (show (regT ((H'.map HK.st).take i)).length ≤ i from Nat.le_trans (regT_len _) (by rw [List.length_take]; exact Nat.min_le_left _ _))
      clear q0 q1 q2 q3 he
      obtain ⟨R', hR'⟩ : ∃ R', R' = regT ((H'.map HK.st).take (i + 1)) := ⟨_, rfl⟩
      rw [← HTk.out, ← hR'] at HSt
      have HRp := Lib.hid hR'
      clear hR'
      generalize regT ((H'.map HK.st).take i) = R at *
      generalize H'[i] = h at *
      clear HTk
      have hfl : h.fr ≤ h.fin := Nat.le_add_right _ _
      have hol : h.old.length ≤ h.fin := Nat.le_add_left _ _
      obtain ⟨x0, x1, ⟨xA, xn, xc⟩, ⟨yA, yn, yc⟩⟩ := e
      have hx0 := HKe.out.fr
      dsimp only [k0, k1, k2, k3] at hx0 c0 c1 c2 c3
      subst hx0
      obtain ⟨pr, rl, cr, rfl, hrR⟩ : ∃ pr rl cr, u6 = .slice pr rl cr ∧ rl = R.length := by
        obtain ⟨A, c, e, _⟩ := HO.out.kp
        exact ⟨_, _, c, e, rfl⟩
      have hrl : rl ≤ 2002 := by have := HRl.out; omega
      have HRL := Lib.hid hrR
      obtain ⟨qz, hq⟩ : ∃ qz : Int, qz = (rl : Int) - 1 := ⟨_, rfl⟩
      have e1 : IntKind.i64.wrap ((rl : Int) - 1) = qz := by rw [hq]; exact IntWalk.i64_in _ (by omega)
      have HQz := Lib.hid hq
      clear hq hrR
      go_upto_region 8 with fail
      have hal := (Below.refl wr.heap.size wr).alloc (Nat.le_refl _) (.cells #[.int .i64 (h.fr : Int), .int .i64 x1, .slice xA xn xc, .slice yA yn yc] 68)
      have hbx := Blk.new wr 68 #[.int .i64 (h.fr : Int), .int .i64 x1, .slice xA xn xc, .slice yA yn yc] rfl
      have HO3 := Lib.hid (HO.out.keep hal)
      have HKe3 := Lib.hid (HKe.out.keep hal)
      have HNg := Lib.hid (show ∀ j, (Value.slice pr rl cr).ownBlock = some j → j ≠ wr.heap.size from fun j hj => by have := HO.out.own.lt j hj; omega)
      clear hal c0 c1 c2 c3 HO HKe
      generalize wr.alloc (.cells #[.int .i64 (h.fr : Int), .int .i64 x1, .slice xA xn xc, .slice yA yn yc] 68) = w3 at *
      generalize wr.heap.size = g at *
      have hgl : g < w3.heap.size := (Array.getElem?_eq_some_iff.1 hbx).1
      have d0 := (hbx.cell.1 0).trans rfl
      have d1 := (hbx.cell.1 1).trans rfl
      have d2 := (hbx.cell.1 2).trans rfl
      have d3 := (hbx.cell.1 3).trans rfl
      have HBx := Lib.hid hbx
      clear hbx
      go_cut [36] from 25 to 36 (fun s36 wx => s36 = .bool (hitR R h.fr) ∧ ∃ n, wx = w3.drewN n)
      case first =>
        clear e1
        rcases List.eq_nil_or_concat R with hR | ⟨L, ⟨f, t⟩, hR0⟩
        · subst hR
          have hR2 := Lib.hid (show hitR [] h.fr = false from rfl)
          have hzb : decide (0 ≤ qz) = false := decide_eq_false (by have := HQz.out; have h0 : rl = 0 := HRL.out; omega)
          have hz : ¬ qz ≥ 0 := of_decide_eq_false hzb
          go_wp2_with fail
          go_quiet (fail)
          go_wp2_with fail
          go_meet
          exact ⟨by rw [hR2.out], _, rfl⟩
        · have hR : R = L ++ [(f, t)] := by rw [hR0, List.concat_eq_append]
          clear hR0
          subst hR
          obtain ⟨gr, cp, e, hb1, hb2, hcell, _⟩ := HO3.out.last
          injection e with e1 e2 e3
          subst e1 e3
          obtain ⟨m, hm⟩ : ∃ m : Nat, m = L.length := ⟨_, rfl⟩
          have hqm : qz = (m : Int) := by have := HQz.out; omega
          rw [← hm] at hcell
          have hlt2 : (m : Int) < (rl : Int) := by omega
          have hR2 := Lib.hid (show hitR (L ++ [(f, t)]) h.fr = decide (h.fr ≤ t) from hitR_snoc L f t h.fr)
          subst hqm
          clear hm e2
          by_cases hc : h.fr ≤ t
          · have hz : decide (h.fr ≤ t) = true := decide_eq_true hc
            have hz2 : (h.fr : Int) ≤ (t : Int) := by omega
            rw [hz] at hR2
            go_wp2_with fail
            go_quiet (fail)
            go_wp2_with fail
            go_meet
            exact ⟨by rw [hR2.out], _, rfl⟩
          · have hz : decide (h.fr ≤ t) = false := decide_eq_false hc
            have hz2 : ¬ (h.fr : Int) ≤ (t : Int) := by omega
            rw [hz] at hR2
            go_wp2_with fail
            go_quiet (fail)
            go_wp2_with fail
            go_meet
            exact ⟨by rw [hR2.out], _, rfl⟩
      case rest =>
        clear e1
        obtain ⟨rfl, nq, rfl⟩ := hcut
        have hdn := below_drewN (Below.refl w3.heap.size w3) nq
        have HO4 := Lib.hid (HO3.out.keep hdn)
        have HKe4 := Lib.hid (HKe3.out.keep hdn)
        have HBx4 := Lib.hid (HBx.out.keep hdn)
        have hgl4 : g < (w3.drewN nq).heap.size := Nat.lt_of_lt_of_le hgl hdn.size
        clear hdn HO3 HKe3 HBx hgl d0 d1 d2 d3
        generalize w3.drewN nq = w4 at *
        have HEnd := Lib.hid (fun W hW => end_any ((h.fr : Int), x1, (xA, xn, xc), (yA, yn, yc)) h W (HKe4.out.keep hW) (by omega) (by omega))
        have hS : w4.drew.cell? ⟨g, 0, none⟩ = some (.int .i64 (h.fr : Int)) ∧ w4.drew.cell? ⟨g, 1, none⟩ = some (.int .i64 x1) ∧ w4.drew.cell? ⟨g, 2, none⟩ = some (.slice xA xn xc) ∧ w4.drew.cell? ⟨g, 3, none⟩ = some (.slice yA yn yc) := ⟨(HBx4.out.cell.1 0).trans rfl, (HBx4.out.cell.1 1).trans rfl, (HBx4.out.cell.1 2).trans rfl, (HBx4.out.cell.1 3).trans rfl⟩
        by_cases hh : hitR R h.fr = true
        · rw [hh]
          rcases List.eq_nil_or_concat R with hR | ⟨L, ⟨f, t⟩, hR0⟩
          · subst hR
            cases hh
          have hR : R = L ++ [(f, t)] := by rw [hR0, List.concat_eq_append]
          clear hR0
          subst hR
          rw [hitR_snoc] at hh
          have hc := of_decide_eq_true hh
          have HR' := Lib.hid ((HSt.out.2 L f t rfl).1 hc)
          have htm := HSn.out (f, t) (by simp)
          obtain ⟨gr, cp, e, hb1, hb2, hcell, hfz⟩ := HO4.out.last
          injection e with e1 e2 e3
          subst e1 e3
          obtain ⟨m, hm⟩ : ∃ m : Nat, m = L.length := ⟨_, rfl⟩
          have hqm : qz = (m : Int) := by have := HQz.out; omega
          rw [← hm] at hcell hfz
          have hlt2 : (m : Int) < (rl : Int) := by omega
          have HM := Lib.hid (And.intro hm e2)
          subst hqm
          clear hm e2 hh hc
          have hgg : gr ≠ g := HNg.out gr rfl
          go_upto_region 9 with fail
          refine wp_region_tail 12 (fun W => W.cell? ⟨gr, m * 2 + 1, none⟩ = some (.int .i64 (t : Int)) ∧ W.cell? ⟨g, 0, none⟩ = some (.int .i64 (h.fr : Int)) ∧ W.cell? ⟨g, 1, none⟩ = some (.int .i64 x1) ∧ W.cell? ⟨g, 2, none⟩ = some (.slice xA xn xc) ∧ W.cell? ⟨g, 3, none⟩ = some (.slice yA yn yc)) (by kernel_rfl) (by decide) ?_
          have hS1 := And.intro (show w4.drew.cell? ⟨gr, m * 2 + 1, none⟩ = some (.int .i64 (t : Int)) from hcell) hS
          refine wpAnyT_take 99 0 (v := ?_) (by kernel_rfl) rfl (by kernel_rfl) (fun _ _ _ h => h) (Or.inl ⟨by rfl, fun W hW => ?_⟩) (by with_reducible assumption) ?_
          rotate_left
          focus ((try dsimp only at hW); go_simp; try with_reducible rfl)
          refine wpAnyT_take 99 1 (v := ?_) (by kernel_rfl) rfl (by kernel_rfl) (fun _ _ _ h => h) (Or.inl ⟨by rfl, fun W hW => ?_⟩) (by with_reducible assumption) ?_
          rotate_left
          focus ((try dsimp only at hW); go_simp; try with_reducible rfl)
          refine wpAnyT_take 99 2 (v := ?_) (by kernel_rfl) rfl (by kernel_rfl) (fun _ _ _ h => h) (Or.inl ⟨by rfl, fun W hW => ?_⟩) (by with_reducible assumption) ?_
          rotate_left
          focus ((try dsimp only at hW); go_simp; try with_reducible rfl)
          refine wpAnyT_take 99 3 (v := ?_) (by kernel_rfl) rfl (by kernel_rfl) (fun _ _ _ h => h) (Or.inl ⟨by rfl, fun W hW => ?_⟩) (by with_reducible assumption) ?_
          rotate_left
          focus ((try dsimp only at hW); go_simp; try with_reducible rfl)
          refine wpAnyT_take 99 4 (v := ?_) (by kernel_rfl) rfl (by kernel_rfl) (fun _ _ _ h => h) (Or.inl ⟨by rfl, fun W hW => ?_⟩) (by with_reducible assumption) ?_
          rotate_left
          focus ((try dsimp only at hW); go_simp; try with_reducible rfl)
          refine wpAnyT_take 99 5 (v := ?_) (by kernel_rfl) rfl (by kernel_rfl) (fun _ _ _ h => h) (Or.inl ⟨by rfl, fun W hW => ?_⟩) (by with_reducible assumption) ?_
          rotate_left
          focus ((try dsimp only at hW); go_simp; try with_reducible rfl)
          refine wpAnyT_take 99 6 (v := ?_) (by kernel_rfl) rfl (by kernel_rfl) (fun _ _ _ h => h) (Or.inl ⟨by rfl, fun W hW => ?_⟩) (by with_reducible assumption) ?_
          rotate_left
          focus ((try dsimp only at hW); go_simp; try with_reducible rfl)
          refine wpAnyT_take 99 7 (v := ?_) (by kernel_rfl) rfl (by kernel_rfl) (fun _ _ _ h => h) (Or.inl ⟨by rfl, fun W hW => ?_⟩) (by with_reducible assumption) ?_
          rotate_left
          focus ((try dsimp only at hW); go_simp; try with_reducible rfl)
          simp only [Act.put, List.getElem_toArray, List.getElem_cons_zero, List.getElem_cons_succ, List.setIfInBounds_toArray, List.set_cons_zero, List.set_cons_succ]
          refine wpAnyT_one 8 (by kernel_rfl) (by decide) ?_
          refine wpOp_at rfl rfl (fun K hK => ?_)
          go_simp
          refine (HEnd.out _ (Below.refl _ w4).drew).mono ?_
          rintro e we ⟨rfl, hbe⟩
          have hxe : Below w4.heap.size w4 we := below_of_drew hbe
          have hbg := HBx4.out.keep hxe
          have hce : we.cell? ⟨gr, m * 2 + 1, none⟩ = some (.int .i64 (t : Int)) := (hxe.cell (p := ⟨gr, m * 2 + 1, none⟩) hb2).trans hcell
          have hfe : we.frozen? ⟨gr, m * 2 + 1, none⟩ = false := (hxe.frozen (p := ⟨gr, m * 2 + 1, none⟩) hb2).trans hfz
          have hSe : we.cell? ⟨gr, m * 2 + 1, none⟩ = some (.int .i64 (t : Int)) ∧ we.cell? ⟨g, 0, none⟩ = some (.int .i64 (h.fr : Int)) ∧ we.cell? ⟨g, 1, none⟩ = some (.int .i64 x1) ∧ we.cell? ⟨g, 2, none⟩ = some (.slice xA xn xc) ∧ we.cell? ⟨g, 3, none⟩ = some (.slice yA yn yc) := ⟨hce, (hbg.cell.1 0).trans rfl, (hbg.cell.1 1).trans rfl, (hbg.cell.1 2).trans rfl, (hbg.cell.1 3).trans rfl⟩
          have HOe := Lib.hid (HO4.out.keep hxe)
          clear hbe hbg hS1 hS
          refine hK.out _ _ ⟨hSe, ?_⟩
          clear hK K
          refine wpAnyT_take 99 9 (v := ?_) (by kernel_rfl) rfl (by kernel_rfl) (fun _ _ _ h => h) (Or.inl ⟨by rfl, fun W hW => ?_⟩) (by with_reducible assumption) ?_
          rotate_left
          focus ((try dsimp only at hW); go_simp; try with_reducible rfl)
          refine wpAnyT_take 99 10 (v := ?_) (by kernel_rfl) rfl (by kernel_rfl) (fun _ _ _ h => h) (Or.inl ⟨by rfl, fun W hW => ?_⟩) (by with_reducible assumption) ?_
          rotate_left
          focus ((try dsimp only at hW); go_simp; try with_reducible rfl)
          refine wpAnyT_take 99 11 (v := ?_) (by kernel_rfl) rfl (by kernel_rfl) (fun _ _ _ h => h) (Or.inl ⟨by rfl, fun W hW => ?_⟩) (by with_reducible assumption) ?_
          rotate_left
          focus ((try dsimp only at hW); go_simp; try with_reducible rfl)
          simp only [Act.put, List.getElem_toArray, List.getElem_cons_zero, List.getElem_cons_succ, List.setIfInBounds_toArray, List.set_cons_zero, List.set_cons_succ]
          refine ⟨by kernel_rfl, ?_⟩
          simp only [List.drop_succ_cons, List.drop_zero]
          have HO5 := Lib.hid (HOe.out.set (max t h.fin))
          rw [← HM.out.1, show ((max t h.fin : Nat) : Int) = max (t : Int) (h.fin : Int) by omega] at HO5
          clear hSe
          go_wp2_with fail
          exact ⟨⟨i + 1, _, rfl, by go_num, Lib.hid hlt, by rw [← HRp.out, show R' = L ++ [(f, max t h.fin)] from HR'.out]; exact HO5⟩, by simp [intOf]; omega⟩
        · have hh2 : hitR R h.fr = false := by simpa using hh
          rw [hh2]
          have HR' := Lib.hid (show R' = R ++ [h.st] from by
            rcases List.eq_nil_or_concat R with hR | ⟨L, ⟨f, t⟩, hR0⟩
            · rw [HSt.out.1 hR, hR]
              rfl
            · have hR : R = L ++ [(f, t)] := by rw [hR0, List.concat_eq_append]
              rw [hR, hitR_snoc] at hh2
              exact (HSt.out.2 L f t hR).2 (of_decide_eq_false hh2))
          obtain ⟨i0, hi, hz0, hz1, hz2⟩ := info_parts regInfo
          have HLn := Lib.hid (show R.length ≤ 2002 from by have := HRL.out; omega)
          clear hh hh2 HSt
          go_upto_region 10 with fail
          refine wp_region_tail 8 (fun W => W.cell? ⟨g, 0, none⟩ = some (.int .i64 (h.fr : Int)) ∧ W.cell? ⟨g, 1, none⟩ = some (.int .i64 x1) ∧ W.cell? ⟨g, 2, none⟩ = some (.slice xA xn xc) ∧ W.cell? ⟨g, 3, none⟩ = some (.slice yA yn yc)) (by kernel_rfl) (by decide) ?_
          refine wpAnyT_take 99 0 (v := ?_) (by kernel_rfl) rfl (by kernel_rfl) (fun _ _ _ h => h) (Or.inl ⟨by rfl, fun W hW => ?_⟩) (by with_reducible assumption) ?_
          rotate_left
          focus ((try dsimp only at hW); go_simp; try with_reducible rfl)
          refine wpAnyT_take 99 1 (v := ?_) (by kernel_rfl) rfl (by kernel_rfl) (fun _ _ _ h => h) (Or.inl ⟨by rfl, fun W hW => ?_⟩) (by with_reducible assumption) ?_
          rotate_left
          focus ((try dsimp only at hW); go_simp; try with_reducible rfl)
          refine wpAnyT_take 99 2 (v := ?_) (by kernel_rfl) rfl (by kernel_rfl) (fun _ _ _ h => h) (Or.inl ⟨by rfl, fun W hW => ?_⟩) (by with_reducible assumption) ?_
          rotate_left
          focus ((try dsimp only at hW); go_simp; try with_reducible rfl)
          refine wpAnyT_take 99 3 (v := ?_) (by kernel_rfl) rfl (by kernel_rfl) (fun _ _ _ h => h) (Or.inl ⟨by rfl, fun W hW => ?_⟩) (by with_reducible assumption) ?_
          rotate_left
          focus ((try dsimp only at hW); go_simp; try with_reducible rfl)
          simp only [Act.put, List.getElem_toArray, List.getElem_cons_zero, List.getElem_cons_succ, List.setIfInBounds_toArray, List.set_cons_zero, List.set_cons_succ]
          refine wpAnyT_one 4 (by kernel_rfl) (by decide) ?_
          refine wpOp_at rfl rfl (fun K hK => ?_)
          go_simp
          refine (HEnd.out _ (Below.refl _ w4).drew).mono ?_
          rintro e we ⟨rfl, hbe⟩
          have hxe : Below w4.heap.size w4 we := below_of_drew hbe
          have hbg := HBx4.out.keep hxe
          have hSe : we.cell? ⟨g, 0, none⟩ = some (.int .i64 (h.fr : Int)) ∧ we.cell? ⟨g, 1, none⟩ = some (.int .i64 x1) ∧ we.cell? ⟨g, 2, none⟩ = some (.slice xA xn xc) ∧ we.cell? ⟨g, 3, none⟩ = some (.slice yA yn yc) := ⟨(hbg.cell.1 0).trans rfl, (hbg.cell.1 1).trans rfl, (hbg.cell.1 2).trans rfl, (hbg.cell.1 3).trans rfl⟩
          have HOe := Lib.hid (HO4.out.keep hxe)
          clear hbe hS
          refine hK.out _ _ ⟨hSe, ?_⟩
          clear hK K
          refine wpAnyT_take 99 5 (v := .agg #[.int .i64 (h.fr : Int), .int .i64 (h.fin : Int)]) (by kernel_rfl) rfl (by kernel_rfl) (fun _ _ _ h => h) (Or.inl ⟨by rfl, fun W hW => ?_⟩) hSe ?_
          · go_simp
          refine wpAnyT_one 6 (by kernel_rfl) (by decide) ?_
          refine wpOp_at rfl rfl (fun K hK => ?_)
          go_simp
          have hxa := (Below.refl we.heap.size we).alloc (Nat.le_refl _) (.cells #[.int .i64 (h.fr : Int), .int .i64 (h.fin : Int)] 51)
          have hbg2 := hbg.keep hxa
          refine hK.out _ _ ⟨⟨(hbg2.cell.1 0).trans rfl, (hbg2.cell.1 1).trans rfl, (hbg2.cell.1 2).trans rfl, (hbg2.cell.1 3).trans rfl⟩, ?_⟩
          clear hK K
          have HOa := Lib.hid (HOe.out.keep hxa)
          have hgl5 : g < (we.alloc (.cells #[.int .i64 (h.fr : Int), .int .i64 (h.fin : Int)] 51)).heap.size := (Array.getElem?_eq_some_iff.1 hbg2).1
          refine wpAnyT_one 7 (by kernel_rfl) (by decide) ?_
          refine wpOp_at rfl rfl (fun K hK => ?_)
          rw [HRL.out] at HNg
          have hvr : (Value.slice pr rl cr) = .slice pr R.length cr := by rw [HRL.out]
          refine wp_append_lies _ _ _ 48 (by rfl) w2.heap.size 51 i0 _ 2 16 Tryd.underlying48 hi hz0 hz1 hz2 rfl (by decide) (.slice pr rl cr) R.length (prC R) (by rfl) HOa.out.own _ 1 1 [.int .i64 (h.fr : Int), .int .i64 (h.fin : Int)] (by rfl) rfl (World.news_of_block (heap_alloc_new _ _)) (by intro u hu; simp at hu; rcases hu with rfl | rfl <;> rfl) (by decide) (by have := HLn.out; unfold maxLen; omega) (by have := HLn.out; omega) (Nat.le_trans HOe.out.below.size hxa.size) _ rfl ?_
          intro g1 cap w9 hown hg hat hlt9
          have HO9 := Lib.hid (HOa.out.append (p := h.st) hown hg)
          have hb9 : Blk w9 g 68 #[.int .i64 (h.fr : Int), .int .i64 x1, .slice xA xn xc, .slice yA yn yc] := (hg.block g hgl5 (fun e => HNg.out g (by rw [← hvr]; exact e.symm) rfl)).trans hbg2
          refine hK.out _ _ ⟨⟨(hb9.cell.1 0).trans rfl, (hb9.cell.1 1).trans rfl, (hb9.cell.1 2).trans rfl, (hb9.cell.1 3).trans rfl⟩, ?_⟩
          clear hK K hown hg hat hlt9 hb9 hbg2 hSe hbg
          refine ⟨by kernel_rfl, ?_⟩
          simp only [List.drop_succ_cons, List.drop_zero]
          go_wp2_with fail
          exact ⟨⟨i + 1, _, rfl, by go_num, Lib.hid hlt, by rw [← HRp.out, HR'.out]; exact HO9⟩, by simp [intOf]; omega⟩
    · have hnz : ¬ (i : Int) < (k : Int) := by omega
      obtain rfl : i = k := by have := HI.out; omega
      have HR := Lib.hid (own_base HO.out.own HBw.out.size)
      rw [List.take_of_length_le (by have := HH.out.at.1; rw [List.length_map]; omega), HReg.out] at HR
      have HB := Lib.hid (HBw.out.trans (HO.out.below.mono HBw.out.size))
      clear hlt
      go_wp2_with fail
      go_ret
      exact ⟨_, rfl, ⟨_, HR.out⟩, HB.out⟩
end Go.Proofs.YtpnnojepbmpfiaaDoor
