/- Arithmetic expressions: the reference's atom. (Printed by tools/gratom.py.) -/
import Derived.Test.YtiigclkebnmopaaGreatDoorArRefD
import Derived.Test.YtiigclkebnmopaaGreatDoorArPre
import Derived.Test.YtiigclkebnmopaaGreatDoorArCls
import Derived.Test.YtiigclkebnmopaaGreatDoorArRefA
import Derived.Defers
import Derived.Recover
namespace Go.Proofs.YtiigclkebnmopaaGreatDoor
open Go.RowKit Go.Shelf

def varR (f : Nat) (nm l2 : List UInt8) : Out := if sg l2 = [91] then (parseR f .expr (aft (sg l2) l2)).bind (varK nm) else .ok (vx nm) (gap l2)
def varRO (f : Nat) (g : List UInt8) : Out := if (run isW g).1.length ≤ 64 then varR f (run isW g).1 (run isW g).2 else .bad g
def priR (f : Nat) (g : List UInt8) : Out := match g with
  | [] => .more
  | c :: r => if isD c = true then numeral (c :: r) else if isL c = true then varRO f (c :: r) else if c = 36 then dollar (c :: r) else if sg (c :: r) = [40] then (parseR f .expr (aft (sg (c :: r)) (c :: r))).bind parK else .bad (c :: r)
theorem parseR_pri (f : Nat) (l : List UInt8) : parseR (f + 1) .prim l = priR f (gap l) := by
  cases hg : gap l with
  | nil =>
    conv => lhs; unfold parseR
    rw [hg]
    rfl
  | cons c r =>
    conv => lhs; unfold parseR
    rw [hg]
    rfl
theorem priR_cons (f : Nat) (c : UInt8) (r : List UInt8) : priR f (c :: r) = if isD c = true then numeral (c :: r) else if isL c = true then varRO f (c :: r) else if c = 36 then dollar (c :: r) else if sg (c :: r) = [40] then (parseR f .expr (aft (sg (c :: r)) (c :: r))).bind parK else .bad (c :: r) := rfl
set_option maxRecDepth 100000 in
set_option maxHeartbeats 12800000 in
theorem ratom_any (f b : Nat) (T : List UInt8) (hE : RCtr 28 .expr f b T) : RCtr 216 .prim (f + 1) b T := by
  intro l w h hm hn
  have HX0 := Lib.hid (RSX.start h)
  have HM := Lib.hid hm
  have HEx := Lib.hid (hE.at hm)
  have hlt := h.lt
  rw [parseR_pri] at hn ⊢
  obtain ⟨o, ho⟩ : ∃ o, priR f (gap l) = o := ⟨_, rfl⟩
  have HO := Lib.hid ho
  rw [ho] at hn ⊢
  have HNn := Lib.hid hn
  obtain ⟨Q, hQ⟩ : ∃ Q, RPG b T o w = Q := ⟨_, rfl⟩
  rw [hQ]
  have HQ := Lib.hid hQ
  clear hQ h hn hE ho hm
  go_enter Tryz.func216, Tryz.ntmps216
  go_wp2_with fail
  generalize w.alloc (.cells #[.string ⟨#[]⟩, .int .i64 0, .string ⟨#[]⟩, .slice none 0 0] 25) = w1 at *
  obtain ⟨bx, hbx⟩ : ∃ bx, w.heap.size = bx := ⟨_, rfl⟩
  rw [hbx] at HX0
  simp only [hbx]
  clear hbx
  refine (rgap_any b T l w1 HX0.out.rd).mono ?_
  rintro e w2 ⟨rfl, hr2, ho2⟩
  have HX2 := Lib.hid (HX0.out.step hr2 ho2)
  have HSk := Lib.hid (skipJ_gap l)
  have HGg := Lib.hid (gap_gap l)
  clear hr2 ho2 HX0
  generalize gap l = g at *
  obtain ⟨p1, j1, hp1, hd1, k0, k1, k5, kf, kbx⟩ := HX2.out.rd.cells
  have HPl := Lib.hid (show plc T g = (p1 : Int) by unfold plc; omega)
  clear kbx hd1 hp1 k0 k5 kf
  go_wp2_with fail
  refine (rpeek_any b T g w2 HX2.out.rd).mono ?_
  rintro e w3 ⟨rfl, hr3, ho3⟩
  rw [HSk.out] at hr3 ⊢
  have HX3 := Lib.hid (HX2.out.step hr3 ho3)
  clear hr3 ho3 HX2 k1
  cases g with
  | nil =>
    have HOm := Lib.hid (show o = .more from HO.out.symm)
    have z1 : (((headB []).toNat : Int) == 36) = false := by decide
    go_wp2_with fail
    refine (rdigit_any 0 _).mono ?_
    rintro e w8 ⟨rfl, rfl⟩
    rw [isD_zero]
    go_wp2_with fail
    refine (rletter_any 0 _).mono ?_
    rintro e w8 ⟨rfl, rfl⟩
    rw [isL_zero]
    have HG := Lib.hid (agot_any b T [] [40] w3 HX3.out.rd (by decide))
    rw [show toB [40] = (⟨#[40]⟩ : ByteArray) from rfl] at HG
    go_wp2_with fail
    refine HG.out.mono ?_
    rintro e w4 ⟨hcase, ho4⟩
    rcases hcase with ⟨hin, rfl, hr4⟩ | ⟨hno, rfl, hr4⟩
    · exact absurd hin (by decide)
    · have HX4 := Lib.hid (HX3.out.step hr4 ho4)
      clear hr4 ho4 hno HG
      go_wp2_with fail
      refine (abad_any b T (gap []) _ HX4.out.rd).mono ?_
      intro e w9 hw
      obtain ⟨hpg, p, cc, rfl⟩ := RPG.badAt hw HX4.out.only
      rw [show badAt (gap []) = o by rw [HOm.out]; exact if_pos rfl] at hpg
      have HPG := Lib.hid hpg
      clear hw hpg
      unfold rpan
      go_wp2_with fail
      rw [← HQ.out]
      exact ⟨rfl, HPG.out⟩
  | cons c0 r0 =>
    rw [show headB (c0 :: r0) = c0 from rfl]
    cases hD : isD c0 with
    | true =>
      have HDt := Lib.hid hD
      have HO2 := Lib.hid (show o = numeral (c0 :: r0) by rw [← HO.out, priR_cons, if_pos hD])
      clear hD
      go_wp2_with fail
      refine (rdigit_any c0 _).mono ?_
      rintro e w8 ⟨rfl, rfl⟩
      rw [HDt.out]
      go_wp2_with fail
      refine (rnumber_any b T (c0 :: r0) _ HX3.out.rd (HM.out.only HX3.out.only)).mono ?_
      intro e w9 hp
      rw [← HO2.out] at hp
      rcases out_cases o with ⟨x, l1, rfl⟩ | hno
      · obtain ⟨v, rfl, hx, hr9, ho9⟩ := hp
        obtain ⟨n, A, k, c, nm, rfl, hnm⟩ := hx.form
        have HE := Lib.hid (HX3.out.givesV hr9 ho9 hx rfl)
        have HX9 := Lib.hid (HX3.out.step hr9 ho9)
        clear hx hr9 ho9 hnm
        obtain ⟨d0, d1, d2, d3, df⟩ := HX9.out.res.cells
        go_wp2_with fail
        obtain ⟨q0, q1, q2, q3, qf⟩ := HE.out.2.cells
        unfold set4 at q0 q1 q2 q3
        refine bodyPost_ret (v := .agg #[.string (toB x.op), .int .i64 (n : Int), .string (toB nm), .slice A k c]) (by simp [results, Tryz.results216, go_sem, q0, q1, q2, q3]) rfl ?_
        rw [← HQ.out]
        exact HE.out.1
      · obtain ⟨p, cc, rfl, ho9, HF⟩ := RPG.fail hno hp
        have h0 := HF Out.ok w (HX3.out.only.trans ho9)
        rw [bind_ok] at h0
        have HFF := Lib.hid h0
        clear h0 hp hno ho9 HF
        unfold rpan
        go_wp2_with fail
        rw [← HQ.out]
        exact ⟨rfl, HFF.out⟩
    | false =>
      have HDt := Lib.hid hD
      cases hL : isL c0 with
      | true =>
        have HLt := Lib.hid hL
        have HNm := Lib.hid (isNm_run HSk.out hL)
        have HO2 := Lib.hid (show o = varRO f (c0 :: r0) by rw [← HO.out, priR_cons, if_neg (by rw [hD]; decide), if_pos hL])
        clear hD hL
        go_wp2_with fail
        refine (rdigit_any c0 _).mono ?_
        rintro e w8 ⟨rfl, rfl⟩
        rw [HDt.out]
        go_wp2_with fail
        refine (rletter_any c0 _).mono ?_
        rintro e w8 ⟨rfl, rfl⟩
        rw [HLt.out]
        go_wp2_with fail
        refine (wordRun_any b T (c0 :: r0) _ HX3.out.rd).mono ?_
        rintro e w4 ⟨rfl, hr4, ho4⟩
        have HX4 := Lib.hid (HX3.out.step hr4 ho4)
        clear hr4 ho4
        go_wp2_with fail
        refine (risName_any (run isW (c0 :: r0)).1 _).mono ?_
        rintro e w5 ⟨rfl, hw5⟩
        subst hw5
        rw [HNm.out]
        by_cases hl : (run isW (c0 :: r0)).1.length ≤ 64
        · have HO3 := Lib.hid (show o = varR f (run isW (c0 :: r0)).1 (run isW (c0 :: r0)).2 by rw [HO2.out]; unfold varRO; rw [if_pos hl])
          rw [decide_eq_true hl]
          clear hl HNm HO2
          generalize (run isW (c0 :: r0)).1 = nm0 at *
          generalize (run isW (c0 :: r0)).2 = l2 at *
          go_wp2_with fail
          refine (apeek_any b T l2 w4 HX4.out.rd).mono ?_
          rintro e w6 ⟨rfl, hr6, ho6⟩
          have HX6 := Lib.hid (HX4.out.step hr6 ho6)
          clear hr6 ho6 HX4
          by_cases h91 : sg l2 = [91]
          · have hbe : ((toB (sg l2)).toList != [91]) = false := by rw [show (toB (sg l2)).toList = sg l2 by simp [toB, ByteArray.toList_eq], h91]; rfl
            have hbe2 : ((toB (sg l2)).toList == [91]) = true := by rw [show (toB (sg l2)).toList = sg l2 by simp [toB, ByteArray.toList_eq], h91]; rfl
            obtain ⟨o2, ho2⟩ : ∃ o2, parseR f .expr (aft [91] l2) = o2 := ⟨_, rfl⟩
            have HK := Lib.hid (show o2.bind (varK nm0) = o by rw [HO3.out]; unfold varR; rw [if_pos h91, h91, ho2])
            have HN2 := Lib.hid (show parseR f .expr (aft [91] l2) ≠ .none from fun e => HNn.out (by rw [← HK.out, ← ho2, e]; rfl))
            have HG := Lib.hid (agot_any b T (gap l2) [91] w6 HX6.out.rd (by decide))
            have h91g := Lib.hid (show sg (gap l2) = [91] by rw [sg_gap]; exact h91)
            rw [show toB [91] = (⟨#[91]⟩ : ByteArray) from rfl] at HG
            clear h91
            go_wp2_with fail
            refine HG.out.mono ?_
            rintro e w7 ⟨hcase, ho7⟩
            rcases hcase with ⟨hin, rfl, hr7⟩ | ⟨hno, rfl, hr7⟩
            · rw [aft_gap] at hr7
              have HX7 := Lib.hid (HX6.out.step hr7 ho7)
              have HE2 := Lib.hid (HEx.out (aft [91] l2) w7 HX7.out.rd HX7.out.only HN2.out)
              rw [ho2] at HE2
              clear hr7 ho7 hin HG hbe hbe2 ho2 HX6
              go_wp2_with fail
              refine HE2.out.mono ?_
              intro e w9 hp
              rcases out_cases o2 with ⟨x, l3, rfl⟩ | hno
              · obtain ⟨v, rfl, hx, hr9, ho9⟩ := hp
                obtain ⟨n, A, k, c, nm, rfl, hnm⟩ := hx.form
                have HB := Lib.hid (HX7.out.box hr9 ho9 hx)
                have HK2 := Lib.hid (show varK nm0 x l3 = o from HK.out)
                clear hx hr9 ho9 hnm HX7 HE2
                go_wp2_with fail
                generalize w9.alloc (.cells #[.string (toB x.op), .int .i64 (n : Int), .string (toB nm), .slice A k c] 25) = w10 at *
                generalize w9.heap.size = gx at *
                have HG := Lib.hid (agot_any b T l3 [93] w10 HB.out.sx.rd (by decide))
                rw [show toB [93] = (⟨#[93]⟩ : ByteArray) from rfl] at HG
                refine HG.out.mono ?_
                rintro e w11 ⟨hcase, ho11⟩
                clear HG
                rcases hcase with ⟨hin, rfl, hr11⟩ | ⟨hno, rfl, hr11⟩
                · have HB11 := Lib.hid (HB.out.step hr11 ho11)
                  have HO5 := Lib.hid (show o = .ok (.mk [101] 0 nm0 [x]) (aft [93] l3) by rw [← HK2.out]; unfold varK; rw [if_pos hin, hin])
                  clear hr11 ho11 hin HB
                  obtain ⟨c0', c1, c2, c3, cf⟩ := HB11.out.four.cells
                  obtain ⟨d0, d1, d2, d3, df⟩ := HB11.out.sx.res.cells
                  have hlt11 := HB11.out.sx.lt
                  go_wp2_with fail
                  have HE := Lib.hid (HB11.out.gives1 [101] nm0 HO5.out)
                  obtain ⟨q0, q1, q2, q3, qf⟩ := HE.out.2.cells
                  unfold set4 at q0 q1 q2 q3
                  rw [show toB [101] = (⟨#[101]⟩ : ByteArray) from rfl] at q0 q1 q2 q3
                  refine bodyPost_ret (v := .agg #[.string ⟨#[101]⟩, .int .i64 0, .string (toB nm0), .slice (some ⟨w11.heap.size, 0, none⟩) 1 1]) (by simp [results, Tryz.results216, go_sem, q0, q1, q2, q3]) rfl ?_
                  rw [← HQ.out]
                  exact HE.out.1
                · have HB11 := Lib.hid (HB.out.step hr11 ho11)
                  have HX11 := Lib.hid HB11.out.sx
                  have HO5 := Lib.hid (show badAt (gap l3) = o by rw [badAt_gap, ← HK2.out]; unfold varK; rw [if_neg hno])
                  clear hr11 ho11 hno HB
                  go_wp2_with fail
                  refine (abad_any b T (gap l3) _ HX11.out.rd).mono ?_
                  intro e w9 hw
                  obtain ⟨hpg, p, cc, rfl⟩ := RPG.badAt hw HX11.out.only
                  rw [HO5.out] at hpg
                  have HPG := Lib.hid hpg
                  clear hw hpg
                  unfold rpan
                  go_wp2_with fail
                  rw [← HQ.out]
                  exact ⟨rfl, HPG.out⟩
              · obtain ⟨p, cc, rfl, ho9, HF⟩ := RPG.fail hno hp
                have h0 := HF (varK nm0) w (HX7.out.only.trans ho9)
                rw [HK.out] at h0
                have HFF := Lib.hid h0
                clear h0 hp hno ho9 HF
                unfold rpan
                go_wp2_with fail
                rw [← HQ.out]
                exact ⟨rfl, HFF.out⟩
            · exact absurd h91g.out hno
          · have hbe2 : ((toB (sg l2)).toList != [91]) = true := by rw [show (toB (sg l2)).toList = sg l2 by simp [toB, ByteArray.toList_eq], bne_iff_ne]; exact h91
            have hbe : ((toB (sg l2)).toList == [91]) = false := by rw [show (toB (sg l2)).toList = sg l2 by simp [toB, ByteArray.toList_eq], beq_eq_false_iff_ne]; exact h91
            have HO4 := Lib.hid (show o = .ok (vx nm0) (gap l2) by rw [HO3.out]; unfold varR; rw [if_neg h91])
            have HE := Lib.hid (HX6.out.givesF [118] nm0 0 (o := o) HO4.out)
            obtain ⟨d0, d1, d2, d3, df⟩ := HX6.out.res.cells
            clear h91
            go_wp2_with fail
            obtain ⟨q0, q1, q2, q3, qf⟩ := HE.out.2.cells
            unfold set4 at q0 q1 q2 q3
            rw [show toB [118] = (⟨#[118]⟩ : ByteArray) from rfl] at q0 q1 q2 q3
            refine bodyPost_ret (v := .agg #[.string ⟨#[118]⟩, .int .i64 0, .string (toB nm0), .slice none 0 0]) (by simp [results, Tryz.results216, go_sem, q0, q1, q2, q3]) rfl ?_
            rw [← HQ.out]
            exact HE.out.1
        · have HO3 := Lib.hid (show o = .bad (c0 :: r0) by rw [HO2.out]; unfold varRO; rw [if_neg hl])
          rw [decide_eq_false hl]
          clear hl
          go_wp2_with fail
          refine (rfail_any _ _ _).mono ?_
          rintro e w9 ⟨rfl, rfl⟩
          unfold rpan
          go_wp2_with fail
          rw [← HQ.out, HO3.out]
          exact ⟨rfl, ⟨by rw [HPl.out]; rfl, HX4.out.only⟩⟩
      | false =>
        have HLt := Lib.hid hL
        by_cases h36 : c0 = 36
        · have he : ((c0.toNat : Int) == 36) = true := by rw [h36]; rfl
          have HO2 := Lib.hid (show o = dollar (c0 :: r0) by rw [← HO.out, priR_cons, if_neg (by rw [hD]; decide), if_neg (by rw [hL]; decide), if_pos h36])
          have HDo := Lib.hid (rdollar_any b T (c0 :: r0) w3 HX3.out.rd HSk.out)
          rw [HPl.out] at HDo
          clear hD hL h36
          go_wp2_with fail
          refine (rdigit_any c0 _).mono ?_
          rintro e w8 ⟨rfl, rfl⟩
          rw [HDt.out]
          go_wp2_with fail
          refine (rletter_any c0 _).mono ?_
          rintro e w8 ⟨rfl, rfl⟩
          rw [HLt.out]
          go_wp2_with fail
          refine (HDo.out).mono ?_
          intro e w9 hp
          rw [← HO2.out] at hp
          rcases out_cases o with ⟨x, l1, rfl⟩ | hno
          · obtain ⟨v, rfl, hx, hr9, ho9⟩ := hp
            obtain ⟨n, A, k, c, nm, rfl, hnm⟩ := hx.form
            have HE := Lib.hid (HX3.out.givesV hr9 ho9 hx rfl)
            have HX9 := Lib.hid (HX3.out.step hr9 ho9)
            clear hx hr9 ho9 hnm
            obtain ⟨d0, d1, d2, d3, df⟩ := HX9.out.res.cells
            go_wp2_with fail
            obtain ⟨q0, q1, q2, q3, qf⟩ := HE.out.2.cells
            unfold set4 at q0 q1 q2 q3
            refine bodyPost_ret (v := .agg #[.string (toB x.op), .int .i64 (n : Int), .string (toB nm), .slice A k c]) (by simp [results, Tryz.results216, go_sem, q0, q1, q2, q3]) rfl ?_
            rw [← HQ.out]
            exact HE.out.1
          · obtain ⟨p, cc, rfl, ho9, HF⟩ := RPG.fail hno hp
            have h0 := HF Out.ok w (HX3.out.only.trans ho9)
            rw [bind_ok] at h0
            have HFF := Lib.hid h0
            clear h0 hp hno ho9 HF
            unfold rpan
            go_wp2_with fail
            rw [← HQ.out]
            exact ⟨rfl, HFF.out⟩
        · have he : ((c0.toNat : Int) == 36) = false := by
            rw [beq_eq_false_iff_ne]
            exact fun e => h36 (UInt8.toNat_inj.1 (show c0.toNat = 36 by omega))
          have HO2 := Lib.hid (show o = if sg (c0 :: r0) = [40] then (parseR f .expr (aft (sg (c0 :: r0)) (c0 :: r0))).bind parK else .bad (c0 :: r0) by rw [← HO.out, priR_cons, if_neg (by rw [hD]; decide), if_neg (by rw [hL]; decide), if_neg h36])
          clear hD hL h36 HO
          generalize hg0 : c0 :: r0 = g0 at *
          go_wp2_with fail
          refine (rdigit_any c0 _).mono ?_
          rintro e w8 ⟨rfl, rfl⟩
          rw [HDt.out]
          go_wp2_with fail
          refine (rletter_any c0 _).mono ?_
          rintro e w8 ⟨rfl, rfl⟩
          rw [HLt.out]
          have HG := Lib.hid (agot_any b T g0 [40] w3 HX3.out.rd (by decide))
          rw [show toB [40] = (⟨#[40]⟩ : ByteArray) from rfl] at HG
          go_wp2_with fail
          refine HG.out.mono ?_
          rintro e w4 ⟨hcase, ho4⟩
          clear HG
          rcases hcase with ⟨hin, rfl, hr4⟩ | ⟨hno, rfl, hr4⟩
          · have HX7 := Lib.hid (HX3.out.step hr4 ho4)
            obtain ⟨o2, ho2⟩ : ∃ o2, parseR f .expr (aft [40] g0) = o2 := ⟨_, rfl⟩
            have HK := Lib.hid (show o2.bind parK = o by rw [HO2.out, if_pos hin, hin, ho2])
            have HN2 := Lib.hid (show parseR f .expr (aft [40] g0) ≠ .none from fun e => HNn.out (by rw [← HK.out, ← ho2, e]; rfl))
            have HE2 := Lib.hid (HEx.out (aft [40] g0) w4 HX7.out.rd HX7.out.only HN2.out)
            rw [ho2] at HE2
            clear hr4 ho4 hin ho2
            go_wp2_with fail
            refine HE2.out.mono ?_
            intro e w9 hp
            rcases out_cases o2 with ⟨x, l3, rfl⟩ | hno
            · obtain ⟨v, rfl, hx, hr9, ho9⟩ := hp
              obtain ⟨n, A, k, c, nm, rfl, hnm⟩ := hx.form
              have HB := Lib.hid (HX7.out.box hr9 ho9 hx)
              have HK2 := Lib.hid (show parK x l3 = o from HK.out)
              clear hx hr9 ho9 hnm HX7 HE2
              go_wp2_with fail
              generalize w9.alloc (.cells #[.string (toB x.op), .int .i64 (n : Int), .string (toB nm), .slice A k c] 25) = w10 at *
              generalize w9.heap.size = gx at *
              have HG := Lib.hid (agot_any b T l3 [41] w10 HB.out.sx.rd (by decide))
              rw [show toB [41] = (⟨#[41]⟩ : ByteArray) from rfl] at HG
              refine HG.out.mono ?_
              rintro e w11 ⟨hcase, ho11⟩
              clear HG
              rcases hcase with ⟨hin, rfl, hr11⟩ | ⟨hno, rfl, hr11⟩
              · have HB11 := Lib.hid (HB.out.step hr11 ho11)
                have HO5 := Lib.hid (show o = .ok x (aft [41] l3) by rw [← HK2.out]; unfold parK; rw [if_pos hin, hin])
                have HE := Lib.hid (HB11.out.gives HO5.out)
                clear hr11 ho11 hin HB
                obtain ⟨c0', c1, c2, c3, cf⟩ := HB11.out.four.cells
                obtain ⟨d0, d1, d2, d3, df⟩ := HB11.out.sx.res.cells
                go_wp2_with fail
                obtain ⟨q0, q1, q2, q3, qf⟩ := HE.out.2.cells
                unfold set4 at q0 q1 q2 q3
                refine bodyPost_ret (v := .agg #[.string (toB x.op), .int .i64 (n : Int), .string (toB nm), .slice A k c]) (by simp [results, Tryz.results216, go_sem, q0, q1, q2, q3]) rfl ?_
                rw [← HQ.out]
                exact HE.out.1
              · have HB11 := Lib.hid (HB.out.step hr11 ho11)
                have HX11 := Lib.hid HB11.out.sx
                have HO5 := Lib.hid (show badAt (gap l3) = o by rw [badAt_gap, ← HK2.out]; unfold parK; rw [if_neg hno])
                clear hr11 ho11 hno HB
                go_wp2_with fail
                refine (abad_any b T (gap l3) _ HX11.out.rd).mono ?_
                intro e w9 hw
                obtain ⟨hpg, p, cc, rfl⟩ := RPG.badAt hw HX11.out.only
                rw [HO5.out] at hpg
                have HPG := Lib.hid hpg
                clear hw hpg
                unfold rpan
                go_wp2_with fail
                rw [← HQ.out]
                exact ⟨rfl, HPG.out⟩
            · obtain ⟨p, cc, rfl, ho9, HF⟩ := RPG.fail hno hp
              have h0 := HF (parK) w (HX7.out.only.trans ho9)
              rw [HK.out] at h0
              have HFF := Lib.hid h0
              clear h0 hp hno ho9 HF
              unfold rpan
              go_wp2_with fail
              rw [← HQ.out]
              exact ⟨rfl, HFF.out⟩
          · have HX4 := Lib.hid (HX3.out.step hr4 ho4)
            have HO5 := Lib.hid (show badAt (gap g0) = o by
              rw [badAt_gap, HO2.out, if_neg hno]
              unfold badAt
              rw [HGg.out, if_neg (by rw [← hg0]; simp)])
            clear hr4 ho4 hno
            go_wp2_with fail
            refine (abad_any b T (gap g0) _ HX4.out.rd).mono ?_
            intro e w9 hw
            obtain ⟨hpg, p, cc, rfl⟩ := RPG.badAt hw HX4.out.only
            rw [HO5.out] at hpg
            have HPG := Lib.hid hpg
            clear hw hpg
            unfold rpan
            go_wp2_with fail
            rw [← HQ.out]
            exact ⟨rfl, HPG.out⟩

end Go.Proofs.YtiigclkebnmopaaGreatDoor

namespace Go.Proofs.YtiigclkebnmopaaGreatDoor
open Go.RowKit Go.Shelf

structure RReads (f b : Nat) (T : List UInt8) : Prop where
  expr : RCtr 28 .expr f b T
  assign : RCtr 62 .assign f b T
  choice : RCtr 105 .choice f b T
  lev : ∀ lv, lv ≤ 10 → RCtrL lv f b T
  pre : RCtr 200 .pre f b T
  suf : RCtr 217 .suf f b T
  prim : RCtr 216 .prim f b T
theorem rreads_zero (b : Nat) (T : List UInt8) : RReads 0 b T :=
  ⟨fun _ _ _ _ hn => absurd rfl hn, fun _ _ _ _ hn => absurd rfl hn, fun _ _ _ _ hn => absurd rfl hn, fun _ _ _ _ _ _ hn => absurd rfl hn, fun _ _ _ _ hn => absurd rfl hn, fun _ _ _ _ hn => absurd rfl hn, fun _ _ _ _ hn => absurd rfl hn⟩
theorem rreads_succ (f b : Nat) (T : List UInt8) (h : ∀ f', f' ≤ f → RReads f' b T) : RReads (f + 1) b T := by
  have h0 := h f (Nat.le_refl f)
  exact ⟨rexpr_any f b T (fun f' hf => (h f' hf).assign), rassign_any f b T h0.choice h0.assign, rchoice_any f b T (h0.lev 0 (by omega)) h0.expr h0.choice,
    fun lv hlv => rbinary_any f b lv T hlv h0.pre (fun hl f' hf => (h f' hf).lev (lv + 1) (by omega)), rprefix_any f b T h0.prim h0.suf h0.pre, postfix_any f b T h0.prim, ratom_any f b T h0.expr⟩
theorem rreads_any (b : Nat) (T : List UInt8) : ∀ f, RReads f b T := by
  intro f
  induction f using Nat.strongRecOn with
  | ind f ih =>
    cases f with
    | zero => exact rreads_zero b T
    | succ f => exact rreads_succ f b T (fun f' hf => ih f' (by omega))

end Go.Proofs.YtiigclkebnmopaaGreatDoor

namespace Go.Proofs.YtiigclkebnmopaaGreatDoor
open Go.RowKit Go.Shelf

set_option maxRecDepth 100000 in
set_option maxHeartbeats 3200000 in
theorem rdepth_step (P : Nat → Prop) (op nm : List UInt8) (nn : Int) (l : List Ex) (v : Value) (w : World) (hx : ExV P w v (.mk op nn nm l)) (hl : l.length ≤ 1048576) (hs : Ex.depths l ≤ 1048576)
    (IH : ∀ y ∈ l, ∀ (v : Value) (W : World), ExV P W v y → Calls Tryz.prog 32 #[v] W fun e W' => e = .returned (.int .i64 (y.depth : Int)) ∧ Below W.heap.size W W') :
    Calls Tryz.prog 32 #[v] w fun e w' => e = .returned (.int .i64 ((Ex.mk op nn nm l).depth : Int)) ∧ Below w.heap.size w w' := by
  obtain ⟨A, c, rfl, hc, hA⟩ : ∃ A c, v = .agg #[.string (toB op), .int .i64 (nn : Int), .string (toB nm), .slice A l.length c] ∧ l.length ≤ c ∧ (0 < l.length → ∃ g off, A = some ⟨g, off, none⟩ ∧ P g ∧ g < w.heap.size ∧ ExL P w g off l) := by
    unfold ExV at hx
    exact hx
  have ba := (Below.refl w.heap.size w).alloc (Nat.le_refl _) (.cells #[.string (toB op), .int .i64 (nn : Int), .string (toB nm), .slice A l.length c] 25)
  have HB := Lib.hid ba
  have F := Lib.hid (Four.new w (.string (toB op)) (.int .i64 (nn : Int)) (.string (toB nm)) (.slice A l.length c))
  rw [show (Ex.mk op nn nm l).depth = Ex.depths l + 1 by simp [Ex.depth]]
  obtain ⟨Q, hQ⟩ : ∃ Q, (fun (e : Ending) (w' : World) => e = .returned (.int .i64 ((Ex.depths l + 1 : Nat) : Int)) ∧ Below w.heap.size w w') = Q := ⟨_, rfl⟩
  rw [hQ]
  have HQ := Lib.hid hQ
  have HA := Lib.hid (show 0 < l.length → ∃ g off, A = some ⟨g, off, none⟩ ∧ P g ∧ g < (w.alloc (.cells #[.string (toB op), .int .i64 (nn : Int), .string (toB nm), .slice A l.length c] 25)).heap.size ∧ ExL P (w.alloc (.cells #[.string (toB op), .int .i64 (nn : Int), .string (toB nm), .slice A l.length c] 25)) g off l from fun h => by
    obtain ⟨g, off, h1, h2, h3, h4⟩ := hA h
    exact ⟨g, off, h1, h2, Nat.lt_of_lt_of_le h3 ba.size, ExL.keep (P := P) (Q := P) ba.size (fun g hP hg => ⟨ba.block g hg, hP⟩) (ba.block g h3) l h4⟩)
  have HI := Lib.hid IH
  clear hQ hA IH hx ba
  go_enter Tryz.func32, Tryz.ntmps32
  obtain ⟨c0, c1, c2, c3, cf⟩ := F.out.cells
  go_wp2_with fail
  generalize w.alloc (.cells #[.string (toB op), .int .i64 (nn : Int), .string (toB nm), .slice A l.length c] 25) = w1 at *
  clear c0 c1 c2 c3 cf F
  go_loopw [3, 9] (fun s3 s9 wr => ∃ (k m : Nat), s3 = .int .i64 (m : Int) ∧ s9 = .int .i64 (k : Int) ∧ k ≤ l.length ∧ max m (Ex.depths (l.drop k)) = Ex.depths l ∧ Hid (0 < l.length → ∃ g off, A = some ⟨g, off, none⟩ ∧ P g ∧ g < wr.heap.size ∧ ExL P wr g off l) ∧ Hid (Below w.heap.size w wr)) (fun _ s9 _ => l.length - (intOf s9).toNat)
  case atStart => exact ⟨0, 0, rfl, rfl, Nat.zero_le _, by simp, HA, HB⟩
  case round =>
    clear HA HB
    obtain ⟨k, m, rfl, rfl, hk, hmx, HA, HB⟩ := hrel
    by_cases hlt : k < l.length
    · obtain ⟨g, off, rfl, hPg, hg, hL⟩ := HA.out (by omega)
      have hdr : l.drop k = l[k] :: l.drop (k + 1) := List.drop_eq_getElem_cons hlt
      have hLk := exl_at (k := k) hL
      have hmem := List.getElem_mem hlt
      rw [hdr] at hLk
      rw [hdr, depths_cons] at hmx
      unfold ExL at hLk
      obtain ⟨⟨v0, v1, v2, v3, k0, k1, k2, k3, hx⟩, hrest⟩ := hLk
      generalize l[k] = y at *
      rw [show off + 4 * k = off + k * 4 by omega] at k0 k1 k2 k3
      obtain ⟨n5, A5, k5, c5, nm5, hv, hnm⟩ := hx.form
      clear hnm
      simp only [Value.agg.injEq, Array.mk.injEq, List.cons.injEq, and_true] at hv
      obtain ⟨rfl, rfl, rfl, rfl⟩ := hv
      have ba := (Below.refl wr.heap.size wr).alloc (Nat.le_refl _) (.cells #[.string (toB y.op), .int .i64 (n5 : Int), .string (toB nm5), .slice A5 k5 c5] 25)
      have HX := Lib.hid (hx.below ba)
      have HB2 := Lib.hid (HB.out.trans (ba.mono HB.out.size))
      have HL2 := Lib.hid (ExL.keep (P := P) (Q := P) ba.size (fun g hP hg => ⟨ba.block g hg, hP⟩) (ba.block g hg) l hL)
      have hg2 : g < (wr.alloc (.cells #[.string (toB y.op), .int .i64 (n5 : Int), .string (toB nm5), .slice A5 k5 c5] 25)).heap.size := Nat.lt_of_lt_of_le hg ba.size
      have HI2 := Lib.hid (fun W => HI.out y hmem (.agg #[.string (toB y.op), .int .i64 (n5 : Int), .string (toB nm5), .slice A5 k5 c5]) W)
      clear hdr hrest hx hL ba hmem
      go_wp2_with fail
      generalize wr.alloc (.cells #[.string (toB y.op), .int .i64 (n5 : Int), .string (toB nm5), .slice A5 k5 c5] 25) = w2 at *
      clear k0 k1 k2 k3
      refine (HI2.out w2 HX.out).mono ?_
      rintro e w3 ⟨rfl, hb3⟩
      have HB3 := Lib.hid (HB2.out.trans (hb3.mono HB2.out.size))
      have HL3 := Lib.hid (show 0 < l.length → ∃ g' off', some (⟨g, off, none⟩ : Addr) = some ⟨g', off', none⟩ ∧ P g' ∧ g' < w3.heap.size ∧ ExL P w3 g' off' l from fun _ => ⟨g, off, rfl, hPg, Nat.lt_of_lt_of_le hg2 hb3.size, ExL.keep (P := P) (Q := P) hb3.size (fun g hP' hg => ⟨hb3.block g hg, hP'⟩) (hb3.block g hg2) l HL2.out⟩)
      clear hb3
      generalize y.depth = dy at *
      go_wp2_with fail
      exact ⟨⟨k + 1, max m dy, (by congr 1; omega), by go_num, by omega, by omega, HL3, HB3⟩, by simp [intOf]; omega⟩
    · obtain rfl : k = l.length := by omega
      rw [List.drop_length] at hmx
      have hm2 : m = Ex.depths l := by rw [← hmx]; simp [Ex.depths]
      have e1 : IntKind.i64.wrap ((m : Int) + 1) = (m : Int) + 1 := IntWalk.i64_in _ (by omega)
      clear hmx
      subst hm2
      go_wp2_with fail
      rw [← HQ.out]
      exact ⟨by simp, HB.out⟩
theorem depth_size : ∀ (N : Nat) (x : Ex), x.size ≤ N → x.depth ≤ x.size
  | 0, x, h => by have := size_pos x; omega
  | N + 1, .mk op nn nm l, h => by
    have h1 : (Ex.mk op nn nm l).size = Ex.sizes l + 1 := by simp [Ex.size]
    have h2 : (Ex.mk op nn nm l).depth = Ex.depths l + 1 := by simp [Ex.depth]
    have h3 : ∀ (l : List Ex), Ex.sizes l ≤ N → Ex.depths l ≤ Ex.sizes l := by
      intro l
      induction l with
      | nil => intro _; simp [Ex.depths]
      | cons x l ih =>
        intro h
        rw [sizes_cons] at h ⊢
        rw [depths_cons]
        have := depth_size N x (by omega)
        have := ih (by omega)
        omega
    have := h3 l (by omega)
    omega
theorem rdepth_any (P : Nat → Prop) : ∀ (N : Nat) (x : Ex), x.size ≤ N → N ≤ 1048576 → ∀ (v : Value) (w : World), ExV P w v x →
    Calls Tryz.prog 32 #[v] w fun e w' => e = .returned (.int .i64 (x.depth : Int)) ∧ Below w.heap.size w w'
  | 0, x, hN, _, _, _, _ => by have := size_pos x; omega
  | N + 1, .mk op nn nm l, hN, hB, v, w, hx => by
    have hsz : (Ex.mk op nn nm l).size = Ex.sizes l + 1 := by simp [Ex.size]
    have hl := len_sizes l
    have hd := depth_size (N + 1) (.mk op nn nm l) hN
    have h2 : (Ex.mk op nn nm l).depth = Ex.depths l + 1 := by simp [Ex.depth]
    refine rdepth_step P op nm nn l v w hx (by omega) (by omega) ?_
    intro y hy v' W hx'
    exact rdepth_any P N y (by have := size_mem hy; omega) (by omega) v' W hx'

set_option maxHeartbeats 1600000 in
theorem textForm_any (T : List UInt8) (hT : T.length < 9223372036854775808) (w : World) : Calls Tryz.prog 25 #[.string (toB T)] w fun e w' => e = .returned (.int .i64 (chkO T)) ∧ w' = w := by
  have hsz := toB_size T
  have hI := Tryz.strings_IndexByte (toB T) 0 w
  rw [show (toB T).data.toList = T from by simp [toB], show ((0 : Int).toNat.toUInt8) = (0 : UInt8) from rfl] at hI
  by_cases h1 : 16384 < T.length
  · have e1 : (16384 : Int) < ((toB T).size : Int) := by omega
    go_enter Tryz.func25, Tryz.ntmps25
    go_wp2_with fail
    go_ret
    exact ⟨by unfold chkO; rw [if_pos h1]; rfl, rfl⟩
  · have e1 : ¬ (16384 : Int) < ((toB T).size : Int) := by omega
    by_cases h2 : 0 ≤ Lib.indexByte T 0
    · go_enter Tryz.func25, Tryz.ntmps25
      go_wp2_with fail
      refine hI.mono ?_
      rintro e w' ⟨rfl, rfl⟩
      go_wp2_with fail
      go_ret
      exact ⟨by unfold chkO; rw [if_neg h1, if_pos h2]; rfl, rfl⟩
    · go_enter Tryz.func25, Tryz.ntmps25
      go_wp2_with fail
      refine hI.mono ?_
      rintro e w' ⟨rfl, rfl⟩
      go_wp2_with fail
      go_ret
      exact ⟨by unfold chkO; rw [if_neg h1, if_neg (by omega)]; rfl, rfl⟩

end Go.Proofs.YtiigclkebnmopaaGreatDoor

namespace Go.Proofs.YtiigclkebnmopaaGreatDoor
open Go.RowKit

theorem rta_fault (x : Value) (w : World) : (Instr.typeAssert (.iface 109 x) 20 109 true).run Tryz.prog w = .ok (.tuple #[x, .bool true]) w := by kernel_rfl
/-- where the results of guard lie -/
structure GB (w : World) (x y : Nat) (a c : Int) : Prop where
  fst : One w x 3 (.int .i64 a)
  snd : One w y 26 (.int .i64 c)
  ne : x ≠ y
/-- two blocks alone, and new ones, have changed -/
structure Only2 (x y : Nat) (w w' : World) : Prop where
  os : w'.os = w.os
  tape : w'.tape = w.tape
  output : w'.output = w.output
  size : w.heap.size ≤ w'.heap.size
  block : ∀ k, k < w.heap.size → k ≠ x → k ≠ y → w'.heap[k]? = w.heap[k]?
theorem Only2.refl (x y : Nat) (w : World) : Only2 x y w w := ⟨rfl, rfl, rfl, Nat.le_refl _, fun _ _ _ _ => rfl⟩
theorem Only2.trans {x y : Nat} {a w w' : World} (h : Only2 x y a w) (k : Only2 x y w w') : Only2 x y a w' :=
  ⟨k.os.trans h.os, k.tape.trans h.tape, k.output.trans h.output, Nat.le_trans h.size k.size, fun j hj hx hy => (k.block j (Nat.lt_of_lt_of_le hj h.size) hx hy).trans (h.block j hj hx hy)⟩
theorem Only2.one {x y z : Nat} {w w' : World} (h : Only z w w') (hz : z = x ∨ z = y) : Only2 x y w w' :=
  ⟨h.os, h.tape, h.output, h.size, fun k hk hx hy => h.block k hk (fun e => by rcases hz with rfl | rfl <;> contradiction)⟩
theorem Only2.below {x y : Nat} {w w' : World} (h : Below w.heap.size w w') : Only2 x y w w' :=
  ⟨h.os, h.tape, h.output, h.size, fun k hk _ _ => h.block k hk⟩
theorem GB.set {w : World} {x y : Nat} {a c : Int} (h : GB w x y a c) (a' c' : Int) : GB ((w.setCell ⟨x, 0, none⟩ (.int .i64 a')).setCell ⟨y, 0, none⟩ (.int .i64 c')) x y a' c' := by
  have O1 := (Only.refl x w).setCell (i := 0) (.int .i64 a')
  have O2 := (Only.refl y (w.setCell ⟨x, 0, none⟩ (.int .i64 a'))).setCell (i := 0) (.int .i64 c')
  exact ⟨(h.fst.set (.int .i64 a')).only O2 h.ne, (h.snd.only O1 (Ne.symm h.ne)).set (.int .i64 c'), h.ne⟩

set_option maxRecDepth 100000 in
set_option maxHeartbeats 3200000 in
theorem rcatch_panicking (x y : Nat) (a0 c0 a c : Int) (older : List PanicEntry) (w : World) (h : GB w x y a0 c0) :
    CallsD Tryz.prog 61 #[.pointer (some ⟨x, 0, none⟩), .pointer (some ⟨y, 0, none⟩)] (.panicking ({ v := .iface 109 (.agg #[.int .i64 a, .int .i64 c]), recovered := false } :: older)) w fun e u' w' =>
      e = .returned (.tuple #[]) ∧ u' = .panicking ({ v := .iface 109 (.agg #[.int .i64 a, .int .i64 c]), recovered := true } :: older) ∧ GB w' x y a c ∧ Only2 x y w w' := by
  have hta := rta_fault
  refine callsD_of_wpS Tryz.func61 rfl fun c₀ cs hu => ?_
  apply wpS_seq
  apply wpS_region
  simp [wpOpsS, go_sem, recoverD, hu, Tryz.ntmps61, Exit.thenS]
  apply wpS_seq
  apply wpS_region
  simp [wpOpsS, go_sem, Exit.thenS]
  refine wpS_cond (t := true) (by simp [Act.eval, Array.replicate]) ?_
  simp only [if_true]
  refine wpS_of_wp ?_
  simp only [Array.replicate_succ, Array.replicate_zero, List.push_toArray, List.append_toArray, List.nil_append, List.cons_append, List.setIfInBounds_toArray, List.set_cons_zero, List.set_cons_succ]
  have ba := (Below.refl w.heap.size w).alloc (Nat.le_refl _) (.cells #[.int .i64 a, .int .i64 c] 109)
  have hG : GB (w.alloc (.cells #[.int .i64 a, .int .i64 c] 109)) x y a0 c0 := ⟨(ba.block x h.fst.lt).trans h.fst, (ba.block y h.snd.lt).trans h.snd, h.ne⟩
  have HW := Lib.hid (heap_alloc_new w (.cells #[.int .i64 a, .int .i64 c] 109))
  have HB := Lib.hid (Only2.below (x := x) (y := y) ba)
  have HG := Lib.hid hG
  have hxl := h.fst.lt
  have hyl := h.snd.lt
  clear h hG ba
  go_wp2_with fail
  generalize w.alloc (.cells #[.int .i64 a, .int .i64 c] 109) = w1 at *
  generalize w.heap.size = z at *
  have k0 : w1.cell? ⟨z, 0, none⟩ = some (.int .i64 a) := by simp [World.cell?, HW.out]
  have k1 : w1.cell? ⟨z, 1, none⟩ = some (.int .i64 c) := by simp [World.cell?, HW.out]
  have x0 := HG.out.fst.cell
  have xf := HG.out.fst.fz
  have y0 := HG.out.snd.cell
  have yf := HG.out.snd.fz
  have hne := HG.out.ne
  have HF := Lib.hid (HG.out.set a c)
  have HO := Lib.hid (HB.out.trans ((Only2.one ((Only.refl x w1).setCell (i := 0) (.int .i64 a)) (.inl rfl)).trans (Only2.one (z := y) ((Only.refl y (w1.setCell ⟨x, 0, none⟩ (.int .i64 a))).setCell (i := 0) (.int .i64 c)) (.inr rfl))))
  clear HW
  go_region
  go_wp2
  exact ⟨rfl, _, rfl, .tuple #[], results_none rfl _ _ _, rfl, rfl, ⟨HF.out.fst, HF.out.snd, HF.out.ne⟩, ⟨HO.out.os, HO.out.tape, HO.out.output, HO.out.size, HO.out.block⟩⟩

theorem rcatch_idle (x y : Nat) (w : World) :
    CallsD Tryz.prog 61 #[.pointer (some ⟨x, 0, none⟩), .pointer (some ⟨y, 0, none⟩)] .returning w fun e u' w' => e = .returned (.tuple #[]) ∧ u' = .returning ∧ w' = w := by
  refine callsD_of_wpS Tryz.func61 rfl fun c₀ cs hu => ?_
  apply wpS_seq
  apply wpS_region
  simp [wpOpsS, go_sem, recoverD, hu, Tryz.ntmps61, Exit.thenS]
  apply wpS_seq
  apply wpS_region
  simp [wpOpsS, go_sem, Exit.thenS]
  refine wpS_cond (t := false) (by simp [Act.eval, Array.replicate]) ?_
  simp only [Bool.false_eq_true, if_false]
  refine wpS_of_wp (wp_skip ?_)
  exact ⟨rfl, .returning, by rw [← hu], .tuple #[], results_none rfl _ _ _, rfl, rfl, rfl⟩

set_option maxRecDepth 100000 in
set_option maxHeartbeats 3200000 in
theorem rguard_any (cap : Array Value) (R : Ending → World → Prop) (w : World) (HC : Calls Tryz.prog 27 cap ((w.alloc (.cells #[.int .i64 0] 3)).alloc (.cells #[.int .i64 0] 26)) R)
    (HR : ∀ e w2, R e w2 → (e = .returned (.tuple #[]) ∨ ∃ a c, e = rpan a c) ∧ GB w2 w.heap.size (w.heap.size + 1) 0 0) :
    Calls Tryz.prog 26 #[.func (.func 27) #[] cap] w fun e w' => ∃ e1 w2, R e1 w2 ∧ ((e1 = .returned (.tuple #[]) ∧ e = .returned (.tuple #[.int .i64 0, .int .i64 0])) ∨ ∃ a c, e1 = rpan a c ∧ e = .returned (.tuple #[.int .i64 a, .int .i64 c])) ∧ Only2 w.heap.size (w.heap.size + 1) w2 w' := by
  have hmf : ∀ (fn : Fn) (first cap : Array Value) (w : World), (Instr.makeFunc fn first cap).run Tryz.prog w = .ok (.func fn first cap) w := fun _ _ _ _ => rfl
  go_enter_defers Tryz.func26, Tryz.ntmps26
  go_wp2_with fail
  refine HC.mono ?_
  intro e w2 hr
  obtain ⟨he, hp⟩ := HR e w2 hr
  have x0 := hp.fst.cell
  have xf := hp.fst.fz
  have y0 := hp.snd.cell
  have yf := hp.snd.fz
  rcases he with rfl | ⟨a, c, rfl⟩
  · go_wp2_with fail
    have HZ := Lib.hid (hp.set 0 0)
    have HO := Lib.hid ((Only2.one (x := w.heap.size) (y := w.heap.size + 1) ((Only.refl w.heap.size w2).setCell (i := 0) (.int .i64 0)) (.inl rfl)).trans (Only2.one (x := w.heap.size) (y := w.heap.size + 1) ((Only.refl (w.heap.size + 1) (w2.setCell ⟨w.heap.size, 0, none⟩ (.int .i64 0))).setCell (i := 0) (.int .i64 0)) (.inr rfl)))
    generalize (w2.setCell ⟨w.heap.size, 0, none⟩ (.int .i64 0)).setCell ⟨w.heap.size + 1, 0, none⟩ (.int .i64 0) = wz at *
    refine leaves_cons (f := 61) (args := #[.pointer (some ⟨w.heap.size, 0, none⟩), .pointer (some ⟨w.heap.size + 1, 0, none⟩)]) (by simp) (by simp [go_sem]) ?_
    refine (rcatch_idle w.heap.size (w.heap.size + 1) _).mono ?_
    rintro e u' w'' ⟨rfl, rfl, rfl⟩
    have q0 := HZ.out.fst.cell
    have q1 := HZ.out.snd.cell
    simp [Leaves, settle, results, Tryz.results26, go_sem, q0, q1]
    exact ⟨_, _, hr, .inl rfl, HO.out⟩
  · unfold rpan
    go_wp2_with fail
    refine leaves_cons (f := 61) (args := #[.pointer (some ⟨w.heap.size, 0, none⟩), .pointer (some ⟨w.heap.size + 1, 0, none⟩)]) (by simp) (by simp [go_sem]) ?_
    refine (rcatch_panicking w.heap.size (w.heap.size + 1) 0 0 a c [] _ hp).mono ?_
    rintro e u' wz ⟨rfl, rfl, HZ, HO⟩
    have q0 := HZ.fst.cell
    have q1 := HZ.snd.cell
    simp [Leaves, settle, results, Tryz.results26, go_sem, q0, q1]
    exact ⟨_, _, hr, .inr rfl, HO⟩

end Go.Proofs.YtiigclkebnmopaaGreatDoor

namespace Go.Proofs.YtiigclkebnmopaaGreatDoor
open Go.RowKit Go.Shelf

def allR (T : List UInt8) : Out := (parseR (40 * T.length + 40) .expr T).bind endR
/-- what the closure gives: the expression stored in its box, or a panic -/
def RCG (y : Nat) (T : List UInt8) (o : Out) (w : World) (e : Ending) (w' : World) : Prop := match o with
  | .ok x _ => ∃ v0 v1 v2 v3, e = .returned (.tuple #[]) ∧ Four w' y v0 v1 v2 v3 ∧ ExV (Nw w) w' (.agg #[v0, v1, v2, v3]) x ∧ Only y w w'
  | .bad l1 => e = rpan (plc T l1) 1 ∧ Only y w w'
  | .more => e = rpan T.length 27 ∧ Only y w w'
  | _ => False
/-- the variables of strconv's errors lie there -/
def EX (w : World) : Prop := 7 < w.heap.size ∧ (∃ v, w.cell? ⟨6, 0, none⟩ = some v ∧ isErr v) ∧ (∃ v, w.cell? ⟨7, 0, none⟩ = some v ∧ isErr v)
theorem EX.rmx {w w' : World} {b : Nat} (h : EX w) (hb : 7 < b) (ho : Only b w w') : RMX b w' :=
  RMX.only (b := b) (w := w) ⟨by omega, by omega, h.1, h.2.1, h.2.2⟩ ho
theorem RRd.new (w : World) (T : List UInt8) (hT : T.length ≤ 16384) (hz : (0 : UInt8) ∉ T) : RRd (w.alloc (.cells #[.string (toB T), .int .i64 0, .slice none 0 0, .bool false, .pointer none, .bool false] 70)) w.heap.size T T :=
  ⟨⟨0, false, by simp, heap_alloc_new w _⟩, ⟨[], rfl⟩, hT, hz⟩
theorem Only.ofNew {b y : Nat} {w a w' : World} (h : Only y w a) (ho : Only b a w') (hb : w.heap.size ≤ b) : Only y w w' := h.new ho hb
theorem RPG.toRCG {b y : Nat} {T : List UInt8} {o0 o : Out} {w w1 w' : World} {e : Ending} (hno : ∀ x l, o0 ≠ .ok x l) (ho : o0.bind endR = o) (h : RPG b T o0 w1 e w') (h1 : Only y w w1) (hb : w.heap.size ≤ b) : RCG y T o w e w' := by
  subst ho
  cases o0 with
  | ok x l => exact absurd rfl (hno x l)
  | none => exact h.elim
  | stuck l => exact h.elim
  | bad l => exact ⟨h.1, h1.ofNew h.2 hb⟩
  | more => exact ⟨h.1, h1.ofNew h.2 hb⟩

set_option maxRecDepth 100000 in
set_option maxHeartbeats 6400000 in
theorem rclosure_any (bt y : Nat) (T : List UInt8) (w : World) (ht : One w bt 9 (.string (toB T))) (hy : Four w y (.string ⟨#[]⟩) (.int .i64 0) (.string ⟨#[]⟩) (.slice none 0 0)) (hT : T.length ≤ 16384) (hz : (0 : UInt8) ∉ T) (hx : EX w) (hn : parseR (40 * T.length + 40) .expr T ≠ .none) :
    Calls Tryz.prog 27 #[.pointer (some ⟨bt, 0, none⟩), .pointer (some ⟨y, 0, none⟩)] w (RCG y T (allR T) w) := by
  have HRd := Lib.hid (RRd.new w T hT hz)
  have ba := (Below.refl w.heap.size w).alloc (Nat.le_refl _) (.cells #[.string (toB T), .int .i64 0, .slice none 0 0, .bool false, .pointer none, .bool false] 70)
  have HY := Lib.hid (hy.keep ba)
  have hyl := hy.lt
  have h7 := hx.1
  have HOy := Lib.hid (Only.of (b := y) ba (Nat.le_refl _))
  have HMx := Lib.hid (hx.rmx (b := w.heap.size) h7 (Only.of (b := w.heap.size) ba (Nat.le_refl _)))
  have HE := Lib.hid ((rreads_any w.heap.size T _).expr T _ HRd.out HMx.out hn)
  obtain ⟨o0, ho0⟩ : ∃ o0, parseR (40 * T.length + 40) .expr T = o0 := ⟨_, rfl⟩
  rw [ho0] at HE
  obtain ⟨o, ho⟩ : ∃ o, allR T = o := ⟨_, rfl⟩
  have HO := Lib.hid (show o0.bind endR = o by rw [← ho0]; exact ho)
  obtain ⟨Q, hQ⟩ : ∃ Q, RCG y T o w = Q := ⟨_, rfl⟩
  rw [ho, hQ]
  have HQ := Lib.hid hQ
  have c0 := ht.cell
  have hb1 := HRd.out.lt
  clear hQ ho ho0 hn hx hy ba ht
  go_enter Tryz.func27, Tryz.ntmps27
  go_wp2_with fail
  generalize w.alloc (.cells #[.string (toB T), .int .i64 0, .slice none 0 0, .bool false, .pointer none, .bool false] 70) = w1 at *
  obtain ⟨b, hb⟩ : ∃ b, w.heap.size = b := ⟨_, rfl⟩
  have HBb := Lib.hid (show w.heap.size ≤ b by omega)
  have hyb : y ≠ b := by omega
  rw [hb] at HE HRd hyl hb1
  simp only [hb]
  refine HE.out.mono ?_
  intro e w2 hp
  clear c0 HRd
  rcases out_cases o0 with ⟨x, l1, rfl⟩ | hno
  · obtain ⟨v, rfl, hx, hr2, ho2⟩ := hp
    obtain ⟨n, A, k, c, nm, rfl, hnm⟩ := hx.form
    have HY2 := Lib.hid (HY.out.only ho2 hyb)
    have HR2 := Lib.hid hr2
    have HO2 := Lib.hid (HOy.out.ofNew ho2 HBb.out)
    have HX2 := Lib.hid (hx.mono (Q := fun g => w.heap.size ≤ g ∧ g ≠ y ∧ g ≠ b) (fun g hg _ => by
      have hgw : w1.heap.size ≤ g := hg
      exact ⟨by omega, by omega, by omega⟩))
    clear hx hr2 ho2 hnm HE HY HOy
    obtain ⟨d0, d1, d2, d3, df⟩ := HY2.out.cells
    go_upto_region 2 with fail
    change Code.wp _ _ _ _ (set4 w2 y _ _ _ _)
    have O3 := Only.set4 w2 y (.string (toB x.op)) (.int .i64 (n : Int)) (.string (toB nm)) (.slice A k c)
    have HY3 := Lib.hid (HY2.out.set (.string (toB x.op)) (.int .i64 (n : Int)) (.string (toB nm)) (.slice A k c))
    have HR3 := Lib.hid (HR2.out.only O3 (fun e => hyb e.symm))
    have HX3 := Lib.hid (HX2.out.only O3 (fun hh => hh.2.1 rfl))
    have HO3 := Lib.hid (HO2.out.trans O3)
    clear O3 d0 d1 d2 d3 df HX2 HR2 HY2 HO2
    generalize set4 w2 y (.string (toB x.op)) (.int .i64 (n : Int)) (.string (toB nm)) (.slice A k c) = w3 at *
    go_wp2_with fail
    refine (rgap_any b T l1 w3 HR3.out).mono ?_
    rintro e w4 ⟨rfl, hr4, ho4⟩
    have HR4 := Lib.hid hr4
    have HO4 := Lib.hid ho4
    clear hr4 ho4
    go_wp2_with fail
    refine (rpeek_any b T (gap l1) w4 HR4.out).mono ?_
    rintro e w5 ⟨rfl, hr5, ho5⟩
    rw [skipJ_gap] at hr5 ⊢
    have HO5 := Lib.hid (HO4.out.trans ho5)
    have HR5 := Lib.hid hr5
    clear hr5 ho5 HR4 HO4
    cases hg : gap l1 with
    | nil =>
      have HOk := Lib.hid (show o = .ok x [] from HO.out.symm.trans (if_pos hg))
      rw [show ((headB []).toNat : Int) = 0 from rfl]
      clear hg
      go_wp2_with fail
      go_end0
      rw [← HQ.out, HOk.out]
      exact ⟨_, _, _, _, rfl, HY3.out.only HO5.out hyb, (HX3.out.only HO5.out (fun hh => hh.2.2 rfl)).mono (fun g hg _ => hg.1), HO3.out.ofNew HO5.out HBb.out⟩
    | cons c1 r1 =>
      have HOk := Lib.hid (show o = .bad (c1 :: r1) from HO.out.symm.trans ((if_neg (by rw [hg]; simp)).trans (by rw [hg])))
      rw [hg] at HR5
      have hcz : c1 ≠ 0 := fun e => HR5.out.sub (by rw [e]; exact List.mem_cons_self)
      have hne : ((c1.toNat : Int) != 0) = true := by
        rw [bne_iff_ne]
        intro e
        exact hcz (UInt8.toNat_inj.1 (by show c1.toNat = 0; omega))
      rw [show headB (c1 :: r1) = c1 from rfl]
      obtain ⟨p, j, hp, hd, k0, k1, k5, kf, hbx⟩ := HR5.out.cells
      have HPL := Lib.hid (show (p : Int) = plc T (c1 :: r1) by unfold plc; omega)
      have HW := Lib.hid (HO3.out.ofNew HO5.out HBb.out)
      clear hg hbx hd hp hcz k0 k5
      go_wp2_with fail
      refine (rfail_any _ _ _).mono ?_
      rintro e w9 ⟨rfl, rfl⟩
      unfold rpan
      go_wp2_with fail
      rw [← HQ.out, HOk.out]
      exact ⟨rfl, ⟨by rw [HPL.out]; rfl, HW.out⟩⟩
  · have HFF := Lib.hid (RPG.toRCG hno HO.out hp HOy.out HBb.out)
    obtain ⟨p, c, rfl, _, _⟩ := RPG.fail hno hp
    clear hp hno
    unfold rpan
    go_wp2_with fail
    rw [← HQ.out]
    exact ⟨rfl, HFF.out⟩

end Go.Proofs.YtiigclkebnmopaaGreatDoor
