/- Arithmetic expressions: assignment. -/
import Derived.Test.YtiigclkebnmopaaGreatDoorArExp
namespace Go.Proofs.YtiigclkebnmopaaGreatDoor
open Go.RowKit Go.Shelf

def asgB : ByteArray := ⟨#[32, 60, 60, 61, 32, 62, 62, 61, 32, 42, 61, 32, 47, 61, 32, 37, 61, 32, 43, 61, 32, 45, 61, 32, 38, 61, 32, 94, 61, 32, 124, 61, 32, 61, 32]⟩
theorem contains_asg : ∀ s ∈ signs, Lib.contains asgB.data.toList (32 :: s ++ [32]) = decide (s ∈ assigns) := by decide +kernel
theorem asg_any (b : Nat) (s : List UInt8) (hs : s ∈ signs) (w : World) (hm : MX b w) :
    Calls Tryz.prog 72 #[.string asgB, .string (toB (32 :: s ++ [32]))] w fun e w' => e = .returned (.bool (decide (s ∈ assigns))) ∧ w' = w := by
  obtain ⟨_, _, m, h3⟩ := hm
  refine (Tryz.strings_Contains asgB (toB (32 :: s ++ [32])) m w (by decide) h3).mono ?_
  rintro e w' ⟨rfl, rfl⟩
  rw [show (toB (32 :: s ++ [32])).data.toList = 32 :: s ++ [32] from by simp [toB], contains_asg s hs]
  exact ⟨rfl, rfl⟩
def asgK (f : Nat) (x : Ex) (l1 : List UInt8) : Out := if sg l1 ∈ assigns then (if target x = true then (parse f .assign (aft (sg l1) l1)).bind (fun y l2 => .ok (bx (sg l1) [x, y]) l2) else badAt l1) else .ok x (gap l1)
theorem parse_asg (f : Nat) (l : List UInt8) : parse (f + 1) .assign l = (parse f .choice l).bind (asgK f) := rfl

set_option maxRecDepth 100000 in
set_option maxHeartbeats 6400000 in
theorem assignment_any (f b : Nat) (T : List UInt8) (hC : Ctr 99 .choice f b T) (hA : Ctr 54 .assign f b T) : Ctr 54 .assign (f + 1) b T := by
  intro l w h hm hn
  have HM := Lib.hid hm
  have HX0 := Lib.hid (SX.start h)
  have hlt := h.lt
  rw [parse_asg] at hn ⊢
  obtain ⟨o0, ho0⟩ : ∃ o0, parse f .choice l = o0 := ⟨_, rfl⟩
  have HL := Lib.hid (hC l _ HX0.out.rd (hm.only HX0.out.only) (bind_none hn))
  rw [ho0] at HL hn ⊢
  obtain ⟨o, ho⟩ : ∃ o, o0.bind (asgK f) = o := ⟨_, rfl⟩
  have HO := Lib.hid ho
  rw [ho] at hn ⊢
  have HNn := Lib.hid hn
  have HAs := Lib.hid (hA.at hm)
  obtain ⟨Q, hQ⟩ : ∃ Q, PG b T o w = Q := ⟨_, rfl⟩
  rw [hQ]
  have HQ := Lib.hid hQ
  clear hQ h hn hC hA ho ho0 hm
  go_enter Tryz.func54, Tryz.ntmps54
  go_wp2_with fail
  generalize w.alloc (.cells #[.string ⟨#[]⟩, .int .i64 0, .string ⟨#[]⟩, .slice none 0 0] 25) = w1 at *
  refine HL.out.mono ?_
  intro e w2 hp
  clear HL
  obtain ⟨bx, hbx⟩ : ∃ bx, w.heap.size = bx := ⟨_, rfl⟩
  rw [hbx] at HX0
  simp only [hbx]
  clear hbx
  rcases out_cases o0 with ⟨x, l1, rfl⟩ | hno
  · obtain ⟨v, rfl, hx, hr2, ho2⟩ := hp
    obtain ⟨n, A, k, c, nm, rfl, hnm⟩ := hx.form
    have HB := Lib.hid (HX0.out.box hr2 ho2 hx)
    have HK := Lib.hid (show asgK f x l1 = o from HO.out)
    have ht := Lib.hid (show (x.op == [101] || x.op == [118] && isNm nm) = target x by rw [hnm]; rfl)
    clear hx hr2 ho2 hnm HO
    go_wp2_with fail
    generalize w2.alloc (.cells #[.string (toB x.op), .int .i64 (n : Int), .string (toB nm), .slice A k c] 25) = w3 at *
    generalize w2.heap.size = gx at *
    refine (sign_any b T l1 w3 HB.out.sx.rd).mono ?_
    rintro e w4 ⟨rfl, hr4, ho4⟩
    have HB4 := Lib.hid (HB.out.step hr4 ho4)
    have HM4 := Lib.hid (HM.out.only HB4.out.sx.only)
    clear hr4 ho4 HB
    have hsl : (toB (sg l1)).toList = sg l1 := by simp [toB, ByteArray.toList_eq]
    have hsz := sg_len l1
    by_cases hmem : sg l1 ∈ assigns
    · have hne0 : sg l1 ≠ [] := fun e => by rw [e] at hmem; revert hmem; decide
      have h0 : ((toB (sg l1)).toList == []) = false := by rw [hsl]; simpa using hne0
      have hcon := Lib.hid (asg_any b (sg l1) (sg_some hne0).1 w4 HM4.out)
      have hdec : decide (sg l1 ∈ assigns) = true := decide_eq_true hmem
      rw [hdec] at hcon
      have hcat1 : (⟨#[32]⟩ : ByteArray) ++ toB (sg l1) = toB (32 :: sg l1) := toB_cat [32] (sg l1)
      have hcat2 : toB (32 :: sg l1) ++ (⟨#[32]⟩ : ByteArray) = toB (32 :: sg l1 ++ [32]) := toB_cat (32 :: sg l1) [32]
      have hsz1 : (toB (32 :: sg l1)).size = (toB (sg l1)).size + 1 := by simp [toB_size]
      have hz1 : ¬ 9223372036854775807 < 1 + (toB (sg l1)).size := by omega
      have hz2 : ¬ 9223372036854775807 < (toB (32 :: sg l1)).size + 1 := by omega
      have htk := Lib.hid (sg_some hne0).2
      have hsl3 : (sg l1).length ≤ 100 := by rw [toB_size] at hsz; omega
      have HK2 := Lib.hid ((if_pos hmem).symm.trans HK.out)
      clear hmem hsl HK hdec
      obtain ⟨c0, c1, c2, c3, cf⟩ := HB4.out.four.cells
      go_wp2_with fail
      refine hcon.out.mono ?_
      rintro e w5 ⟨rfl, rfl⟩
      clear hcon hcat1 hcat2 hsz1 hz1 hz2
      go_wp2_with fail
      refine (isTarget_any x.op nm (n : Int) A k c _).mono ?_
      rintro e w6 ⟨rfl, hb6⟩
      rw [ht.out]
      have HB6 := Lib.hid (HB4.out.below hb6)
      clear c0 c1 c2 c3 cf hb6
      cases htx : target x with
      | true =>
        have HK3 := Lib.hid ((if_pos htx).symm.trans HK2.out)
        clear htx
        go_wp2_with fail
        refine (take_any b T (gap l1) (sg l1) w6 HB6.out.sx.rd hsl3).mono ?_
        rintro e w7 ⟨rfl, hr7, ho7⟩
        have HB7 := Lib.hid (HB6.out.step (show Rd w7 b T (aft (sg l1) l1) from by rw [htk.out] at hr7; exact hr7) ho7)
        have HB8 := Lib.hid (HB7.out.below ((Below.refl _ w7).drew))
        obtain ⟨o3, ho3⟩ : ∃ o3, parse f .assign (aft (sg l1) l1) = o3 := ⟨_, rfl⟩
        rw [ho3] at HK3
        have HN3 := Lib.hid (show parse f .assign (aft (sg l1) l1) ≠ .none from fun e => HNn.out (by rw [← HK3.out, ← ho3, e]; rfl))
        have HE3 := Lib.hid (HAs.out (aft (sg l1) l1) w7.drew HB8.out.sx.rd HB8.out.sx.only HN3.out)
        rw [ho3] at HE3
        obtain ⟨c0, c1, c2, c3, cf⟩ := HB7.out.four.cells
        clear hr7 ho7 ho3
        go_upto_region 8 with fail
        rcases out_cases o3 with ⟨z, l3, rfl⟩ | hno
        · go_region_law (first
            | (go_simp; go_at_call 54; refine HE3.out.mono ?_; rintro e w8 ⟨v, rfl, hz, hr8, ho8⟩; obtain ⟨n8, A8, k8, c8, nm8, rfl, hnm8⟩ := hz.form; have HE := Lib.hid (HB8.out.gives2 hr8 ho8 hz (sg l1) HK3.out.symm); have HX9 := Lib.hid (HB8.out.step hr8 ho8); clear hz hr8 ho8 hnm8; obtain ⟨d0, d1, d2, d3, df⟩ := HX9.out.sx.res.cells; obtain ⟨e0, e1, e2, e3, ef⟩ := HX9.out.four.cells; have hlt9 := HX9.out.sx.lt))
          all_goals
            go_wp2_with fail
            obtain ⟨q0, q1, q2, q3, qf⟩ := HE.out.2.cells
            unfold set4 at q0 q1 q2 q3
            rw [show toB [] = (⟨#[]⟩ : ByteArray) from rfl] at q0 q1 q2 q3
            refine bodyPost_ret (v := .agg #[.string (toB (sg l1)), .int .i64 0, .string ⟨#[]⟩, .slice (some ⟨w8.heap.size, 0, none⟩) 2 2]) (by simp [results, Tryz.results54, go_sem, q0, q1, q2, q3]) rfl ?_
            rw [← HQ.out]
            exact HE.out.1
        · go_region_with (first
            | (go_at_call 54; refine HE3.out.mono ?_; intro e w8 hp; obtain ⟨p, cc, rfl, ho8, HF⟩ := PG.fail hno hp; have h0 := HF (fun c l3 => .ok (Go.Proofs.YtiigclkebnmopaaGreatDoor.bx (sg l1) [x, c]) l3) w (HB8.out.sx.only.trans ho8); rw [HK3.out] at h0; have HFF := Lib.hid h0; clear h0 hp ho8 HF; unfold pan; go_wp2_with fail; refine region_ends w8 ?_ ?_; (refine ⟨rfl, ?_⟩; rw [← HQ.out]; exact HFF.out)))
          all_goals trivial
      | false =>
        have HK3 := Lib.hid ((if_neg (show ¬ target x = true by rw [htx]; decide)).symm.trans HK2.out)
        have HW := Lib.hid (wrong_any b T (gap l1) w6 HB6.out.sx.rd)
        clear htx
        go_wp2_with fail
        refine HW.out.mono ?_
        intro e w8 hw
        obtain ⟨hpg, p, cc, rfl⟩ := PG.badAt hw HB6.out.sx.only
        rw [badAt_gap, HK3.out] at hpg
        have HPG := Lib.hid hpg
        clear hw hpg HW
        unfold pan
        go_wp2_with fail
        rw [← HQ.out]
        exact ⟨rfl, HPG.out⟩
    · have HLr := Lib.hid ((if_neg hmem).symm.trans HK.out)
      obtain ⟨c0, c1, c2, c3, cf⟩ := HB4.out.four.cells
      obtain ⟨d0, d1, d2, d3, df⟩ := HB4.out.sx.res.cells
      have hlt4 := HB4.out.sx.lt
      have HE := Lib.hid (HB4.out.gives HLr.out.symm)
      by_cases hne0 : sg l1 = []
      · have h0 : ((toB (sg l1)).toList == []) = true := by rw [hsl]; simpa using hne0
        clear hmem hne0 hsl HK
        go_wp2_with fail
        obtain ⟨q0, q1, q2, q3, qf⟩ := HE.out.2.cells
        unfold set4 at q0 q1 q2 q3
        refine bodyPost_ret (v := .agg #[.string (toB x.op), .int .i64 (n : Int), .string (toB nm), .slice A k c]) (by simp [results, Tryz.results54, go_sem, q0, q1, q2, q3]) rfl ?_
        rw [← HQ.out]
        exact HE.out.1
      · have h0 : ((toB (sg l1)).toList == []) = false := by rw [hsl]; simpa using hne0
        have hcon := Lib.hid (asg_any b (sg l1) (sg_some hne0).1 w4 HM4.out)
        have hdec : decide (sg l1 ∈ assigns) = false := decide_eq_false hmem
        rw [hdec] at hcon
        have hcat1 : (⟨#[32]⟩ : ByteArray) ++ toB (sg l1) = toB (32 :: sg l1) := toB_cat [32] (sg l1)
        have hcat2 : toB (32 :: sg l1) ++ (⟨#[32]⟩ : ByteArray) = toB (32 :: sg l1 ++ [32]) := toB_cat (32 :: sg l1) [32]
        have hsz1 : (toB (32 :: sg l1)).size = (toB (sg l1)).size + 1 := by simp [toB_size]
        have hz1 : ¬ 9223372036854775807 < 1 + (toB (sg l1)).size := by omega
        have hz2 : ¬ 9223372036854775807 < (toB (32 :: sg l1)).size + 1 := by omega
        clear hmem hne0 hsl HK hdec
        go_wp2_with fail
        refine hcon.out.mono ?_
        rintro e w5 ⟨rfl, rfl⟩
        go_wp2_with fail
        obtain ⟨q0, q1, q2, q3, qf⟩ := HE.out.2.cells
        unfold set4 at q0 q1 q2 q3
        refine bodyPost_ret (v := .agg #[.string (toB x.op), .int .i64 (n : Int), .string (toB nm), .slice A k c]) (by simp [results, Tryz.results54, go_sem, q0, q1, q2, q3]) rfl ?_
        rw [← HQ.out]
        exact HE.out.1
  · obtain ⟨p, c, rfl, ho2, HF⟩ := PG.fail hno hp
    have HO2 := Lib.hid (HX0.out.only.trans ho2)
    have HFF := Lib.hid HF
    clear hp hno ho2 HF
    unfold pan
    go_wp2_with fail
    rw [← HQ.out, ← HO.out]
    exact ⟨rfl, HFF.out _ _ HO2.out⟩

end Go.Proofs.YtiigclkebnmopaaGreatDoor

namespace Go.Proofs.YtiigclkebnmopaaGreatDoor
open Go.RowKit Go.Shelf

def varK (nm : List UInt8) (x : Ex) (l1 : List UInt8) : Out := if sg l1 = [93] then .ok (.mk [101] 0 nm [x]) (aft (sg l1) l1) else badAt l1
def varI (f : Nat) (nm l : List UInt8) : Out := if sg l = [91] then (parse f .expr (aft (sg l) l)).hard.bind (varK nm) else .ok (vx nm) (gap l)
def varO (f : Nat) (g : List UInt8) : Out := if (run isW g).1.length ≤ 64 then varI f (run isW g).1 (run isW g).2 else .bad g
/-- a value without parts is the result -/
theorem SX.givesF {w W : World} {b bx : Nat} {T l : List UInt8} (h : SX w b bx T l W) (op nm : List UInt8) (n : Int) {o : Out} (ho : o = .ok (.mk op n nm []) l) :
    PG b T o w (.returned (.agg #[.string (toB op), .int .i64 (n : Int), .string (toB nm), .slice none 0 0])) (set4 W bx (.string (toB op)) (.int .i64 (n : Int)) (.string (toB nm)) (.slice none 0 0)) ∧ Four (set4 W bx (.string (toB op)) (.int .i64 (n : Int)) (.string (toB nm)) (.slice none 0 0)) bx (.string (toB op)) (.int .i64 (n : Int)) (.string (toB nm)) (.slice none 0 0) :=
  h.gives (ExV.flat _ W op nm n) ho

set_option maxRecDepth 100000 in
set_option maxHeartbeats 6400000 in
theorem variable_any (f b : Nat) (T : List UInt8) (hE : Ctr 20 .expr f b T) (c0 : UInt8) (r0 g : List UInt8) (w : World) (hg : g = c0 :: r0) (hc : isL c0 = true) (hsk : skipJ g = g) (h : Rd w b T g) (hm : MX b w) (hn : varO f g ≠ .none) :
    Calls Tryz.prog 227 #[.pointer (some ⟨b, 0, none⟩), .int .i64 (plc T g)] w (PG b T (varO f g) w) := by
  have HX0 := Lib.hid (SX.start h)
  have hlt := h.lt
  have HNm := Lib.hid (fun l' W hW => name_any b T l' W hW)
  have HPk := Lib.hid (fun l' W hW => peek_any b T l' W hW)
  have HEx := Lib.hid (hE.at hm)
  have HSt := Lib.hid (show startL g = true by unfold startL; rw [hsk, hg]; exact hc)
  obtain ⟨o, ho⟩ : ∃ o, varO f g = o := ⟨_, rfl⟩
  have HO := Lib.hid ho
  rw [ho] at hn ⊢
  have HNn := Lib.hid hn
  obtain ⟨Q, hQ⟩ : ∃ Q, PG b T o w = Q := ⟨_, rfl⟩
  rw [hQ]
  have HQ := Lib.hid hQ
  obtain ⟨pl, hpl⟩ : ∃ pl, plc T g = pl := ⟨_, rfl⟩
  have HPL := Lib.hid hpl
  rw [hpl]
  clear hQ h hn hE ho hm hg hc hsk hpl
  go_enter Tryz.func227, Tryz.ntmps227
  go_wp2_with fail
  generalize w.alloc (.cells #[.string ⟨#[]⟩, .int .i64 0, .string ⟨#[]⟩, .slice none 0 0] 25) = w1 at *
  refine (HNm.out g _ HX0.out.rd).mono ?_
  rintro e w2 ⟨s, l', rfl, hr2, ho2, hns⟩
  obtain ⟨bx, hbx⟩ : ∃ bx, w.heap.size = bx := ⟨_, rfl⟩
  rw [hbx] at HX0
  simp only [hbx]
  clear hbx
  have HX2 := Lib.hid (HX0.out.step hr2 ho2)
  clear hr2 ho2 HX0
  go_wp2_with fail
  refine (HPk.out l' _ HX2.out.rd).mono ?_
  rintro e w3 ⟨rfl, hr3, ho3⟩
  have HX3 := Lib.hid (HX2.out.step hr3 ho3)
  clear hr3 ho3 HX2
  obtain ⟨hd, hhd⟩ : ∃ hd, headI (skipJ l') = hd := ⟨_, rfl⟩
  have HHD := Lib.hid hhd
  rw [hhd]
  clear hhd
  rcases hns with ⟨h1, _, _⟩ | ⟨_, h2, rfl, rfl⟩ | ⟨_, h2, _, c, r, rfl, hw⟩
  · rw [HSt.out] at h1; cases h1
  · have hrt := run_tail (l := g)
    have HK := Lib.hid ((show varI f (run isW g).1 (run isW g).2 = varO f g from (if_pos h2).symm).trans HO.out)
    have hX : isLB hd = false ∧ isDB hd = false := by
      rw [← HHD.out, hrt.1]
      cases hx : (run isW g).2 with
      | nil => exact ⟨by decide, by decide⟩
      | cons c r =>
        have hw := hrt.2 c r hx
        unfold isW at hw
        simp at hw
        exact ⟨(isLB_u8 c).trans hw.1, (isDB_u8 c).trans hw.2⟩
    have hLB := Lib.hid hX.1
    have hDB := Lib.hid hX.2
    rw [hrt.1] at HX3
    obtain ⟨nm, hnm⟩ : ∃ nm, (run isW g).1 = nm := ⟨_, rfl⟩
    obtain ⟨l1, hl1⟩ : ∃ l1, (run isW g).2 = l1 := ⟨_, rfl⟩
    rw [hnm, hl1] at HK
    rw [hl1] at HX3
    rw [hnm]
    clear hrt hX h2 hnm hl1 HHD HO
    go_wp2_with fail
    refine (isLetter_any _ _).mono ?_
    rintro e w4 ⟨rfl, rfl⟩
    rw [hLB.out]
    go_wp2_with fail
    refine (isDigit_any _ _).mono ?_
    rintro e w4 ⟨rfl, rfl⟩
    rw [hDB.out]
    go_wp2_with fail
    have HI := isSign_lit b T l1 [[91]] 1 rfl w3 #[.string ⟨#[91]⟩] rfl HX3.out.rd (by decide) (by decide)
    refine HI.mono ?_
    clear HI
    rintro e w4 ⟨hcase, ho4⟩
    have ba := (Below.refl w3.heap.size w3).alloc (Nat.le_refl _) (.cells #[.string ⟨#[91]⟩] 9)
    have HX4 := Lib.hid (HX3.out.below ba)
    clear ba HX3
    generalize w3.alloc (.cells #[.string ⟨#[91]⟩] 9) = w3' at *
    rcases hcase with ⟨hin, rfl, hr4⟩ | ⟨hno, rfl, hr4⟩
    · have HX5 := Lib.hid (HX4.out.step hr4 ho4)
      have hin' : sg l1 = [91] := List.mem_singleton.1 hin
      obtain ⟨o2, ho2⟩ : ∃ o2, (parse f .expr (aft (sg l1) l1)).hard = o2 := ⟨_, rfl⟩
      have HK2 := Lib.hid ((if_pos hin').symm.trans HK.out)
      rw [ho2] at HK2
      have HN2 := Lib.hid (show parse f .expr (aft (sg l1) l1) ≠ .none from fun e => HNn.out (by rw [← HK2.out, ← ho2, e]; rfl))
      have HE2 := Lib.hid ((HEx.out (aft (sg l1) l1) w4 HX5.out.rd HX5.out.only HN2.out).mono (fun e w' hp => PG.hard.2 hp))
      rw [ho2] at HE2
      clear hr4 ho4 hin hin' ho2 HK HX4
      go_wp2_with fail
      refine HE2.out.mono ?_
      intro e w5 hp
      clear HE2
      rcases out_cases o2 with ⟨y, l2, rfl⟩ | hno
      · obtain ⟨v, rfl, hy, hr5, ho5⟩ := hp
        obtain ⟨n5, A5, k5, c5, nm5, rfl, hnm5⟩ := hy.form
        have HB5 := Lib.hid (HX5.out.box hr5 ho5 hy)
        have HK3 := Lib.hid (show varK nm y l2 = o from HK2.out)
        clear hy hr5 ho5 hnm5 HX5
        go_wp2_with fail
        have hs6 : (w5.alloc (.cells #[.string (toB y.op), .int .i64 (n5 : Int), .string (toB nm5), .slice A5 k5 c5] 25)).heap.size = w5.heap.size + 1 := by simp
        generalize w5.alloc (.cells #[.string (toB y.op), .int .i64 (n5 : Int), .string (toB nm5), .slice A5 k5 c5] 25) = w6 at *
        have HI := isSign_lit b T l2 [[93]] 1 rfl w6 #[.string ⟨#[93]⟩] rfl HB5.out.sx.rd (by decide) (by decide)
        rw [hs6] at HI
        refine HI.mono ?_
        clear HI hs6
        rintro e w7 ⟨hcase, ho7⟩
        have ba := (Below.refl w6.heap.size w6).alloc (Nat.le_refl _) (.cells #[.string ⟨#[93]⟩] 9)
        have HB6 := Lib.hid (HB5.out.below ba)
        clear ba HB5
        generalize w6.alloc (.cells #[.string ⟨#[93]⟩] 9) = w6' at *
        generalize w5.heap.size = gy at *
        rcases hcase with ⟨hin, rfl, hr7⟩ | ⟨hno, rfl, hr7⟩
        · have HB7 := Lib.hid (HB6.out.step hr7 ho7)
          have hin' : sg l2 = [93] := List.mem_singleton.1 hin
          have HK4 := Lib.hid ((if_pos hin').symm.trans HK3.out)
          obtain ⟨c0, c1, c2, c3, cf⟩ := HB7.out.four.cells
          obtain ⟨d0, d1, d2, d3, df⟩ := HB7.out.sx.res.cells
          have hlt7 := HB7.out.sx.lt
          clear hr7 ho7 hin hin' HK3 HB6
          go_wp2_with fail
          have HE := Lib.hid (HB7.out.gives1 [101] nm HK4.out.symm)
          obtain ⟨q0, q1, q2, q3, qf⟩ := HE.out.2.cells
          unfold set4 at q0 q1 q2 q3
          rw [show toB [101] = (⟨#[101]⟩ : ByteArray) from rfl] at q0 q1 q2 q3
          refine bodyPost_ret (v := .agg #[.string ⟨#[101]⟩, .int .i64 0, .string (toB nm), .slice (some ⟨w7.heap.size, 0, none⟩) 1 1]) (by simp [results, Tryz.results227, go_sem, q0, q1, q2, q3]) rfl ?_
          rw [← HQ.out]
          exact HE.out.1
        · have HB7 := Lib.hid (HB6.out.step hr7 ho7)
          have HK4 := Lib.hid ((if_neg (fun h => hno (List.mem_singleton.2 h))).symm.trans HK3.out)
          have HW := Lib.hid (wrong_any b T (gap l2) w7 hr7)
          clear hr7 ho7 hno HK3 HB6
          go_wp2_with fail
          refine HW.out.mono ?_
          intro e w8 hw
          obtain ⟨hpg, p, cc, rfl⟩ := PG.badAt hw HB7.out.sx.only
          rw [badAt_gap, HK4.out] at hpg
          have HPG := Lib.hid hpg
          clear hw hpg HW
          unfold pan
          go_wp2_with fail
          rw [← HQ.out]
          exact ⟨rfl, HPG.out⟩
      · obtain ⟨p, cc, rfl, ho5, HF⟩ := PG.fail hno hp
        have h0 := HF (varK nm) w (HX5.out.only.trans ho5)
        rw [HK2.out] at h0
        have HFF := Lib.hid h0
        clear h0 hp hno ho5 HF
        unfold pan
        go_wp2_with fail
        rw [← HQ.out]
        exact ⟨rfl, HFF.out⟩
    · have HX5 := Lib.hid (HX4.out.step hr4 ho4)
      have HLr := Lib.hid ((if_neg (fun h => hno (List.mem_singleton.2 h))).symm.trans HK.out)
      clear hr4 ho4 hno HK HX4
      obtain ⟨d0, d1, d2, d3, df⟩ := HX5.out.res.cells
      have HE := Lib.hid (HX5.out.givesF [118] nm 0 HLr.out.symm)
      go_wp2_with fail
      obtain ⟨q0, q1, q2, q3, qf⟩ := HE.out.2.cells
      unfold set4 at q0 q1 q2 q3
      rw [show toB [118] = (⟨#[118]⟩ : ByteArray) from rfl] at q0 q1 q2 q3
      refine bodyPost_ret (v := .agg #[.string ⟨#[118]⟩, .int .i64 0, .string (toB nm), .slice none 0 0]) (by simp [results, Tryz.results227, go_sem, q0, q1, q2, q3]) rfl ?_
      rw [← HQ.out]
      exact HE.out.1
  · have HK := Lib.hid ((show Out.bad g = varO f g from (if_neg (by omega)).symm).trans HO.out)
    have hX : (isLB hd || isDB hd) = true := by
      have h92 : c ≠ 92 := fun e => by rw [e] at hw; revert hw; decide
      have hs : skipJ (c :: r) = c :: r := by
        cases r with
        | nil => rfl
        | cons a t => simp [skipJ, h92]
      rw [← HHD.out, hs]
      rw [show headI (c :: r) = (c.toNat : Int) from rfl, isLB_u8, isDB_u8]
      exact hw
    have HXX := Lib.hid hX
    have HO3 := Lib.hid HX3.out.only
    clear hX hw h2 HHD HO HX3
    go_wp2_with fail
    refine (isLetter_any _ _).mono ?_
    rintro e w4 ⟨rfl, rfl⟩
    cases hl : isLB hd with
    | true =>
      go_wp2_with fail
      refine (fail_any _ _ _).mono ?_
      rintro e w7 ⟨rfl, rfl⟩
      unfold pan
      go_wp2_with fail
      rw [← HQ.out, ← HK.out]
      exact ⟨rfl, (show PG b T (.bad g) w (pan pl 1) _ from ⟨by rw [HPL.out], HO3.out⟩)⟩
    | false =>
      have hD : isDB hd = true := by have := HXX.out; rw [hl] at this; simpa using this
      go_wp2_with fail
      refine (isDigit_any _ _).mono ?_
      rintro e w4 ⟨rfl, rfl⟩
      rw [hD]
      go_wp2_with fail
      refine (fail_any _ _ _).mono ?_
      rintro e w7 ⟨rfl, rfl⟩
      unfold pan
      go_wp2_with fail
      rw [← HQ.out, ← HK.out]
      exact ⟨rfl, (show PG b T (.bad g) w (pan pl 1) _ from ⟨by rw [HPL.out], HO3.out⟩)⟩

end Go.Proofs.YtiigclkebnmopaaGreatDoor

namespace Go.Proofs.YtiigclkebnmopaaGreatDoor
open Go.RowKit Go.Shelf

def parK (x : Ex) (l1 : List UInt8) : Out := if sg l1 = [41] then .ok x (aft (sg l1) l1) else badAt l1
def priO (f : Nat) (g : List UInt8) : Out := match g with
  | [] => .more
  | c :: r => if isD c = true then numeral (c :: r) else if isL c = true then varO f (c :: r) else if c = 36 then dollar (c :: r) else .bad (c :: r)
theorem parse_pri (f : Nat) (l : List UInt8) : parse (f + 1) .prim l = if sg l = [40] then (parse f .expr (aft (sg l) l)).hard.bind parK else priO f (gap l) := by
  cases hg : gap l with
  | nil =>
    conv => lhs; unfold parse
    rw [hg]
    rfl
  | cons c r =>
    conv => lhs; unfold parse
    rw [hg]
    rfl
theorem priO_head (f : Nat) (g : List UInt8) : priO f g = if isDB (headI g) = true then numeral g else if isLB (headI g) = true then varO f g else if headI g = 36 then dollar g else if g = [] then .more else .bad g := by
  cases g with
  | nil => rfl
  | cons c r =>
    have h36 : ((c.toNat : Int) = 36) ↔ c = 36 := by
      constructor
      · intro h
        apply UInt8.toNat_inj.1
        have : c.toNat = 36 := by omega
        rw [this]
        rfl
      · intro h
        rw [h]
        rfl
    unfold priO
    dsimp only
    rw [show headI (c :: r) = (c.toNat : Int) from rfl, isDB_u8, isLB_u8]
    by_cases hc : c = 36
    · rw [if_pos hc, if_pos (h36.2 hc)]
    · rw [if_neg hc, if_neg (fun h => hc (h36.1 h)), if_neg (by simp : ¬ (c :: r) = [])]

set_option maxRecDepth 100000 in
set_option maxHeartbeats 6400000 in
theorem primary_any (f b : Nat) (T : List UInt8) (hE : Ctr 20 .expr f b T) : Ctr 215 .prim (f + 1) b T := by
  intro l w h hm hn
  have HX0 := Lib.hid (SX.start h)
  have hlt := h.lt
  have HSk := Lib.hid (fun l' W hW => skip_any b T l' W hW)
  have HPk := Lib.hid (fun l' W hW => peek_any b T l' W hW)
  have HEx := Lib.hid (hE.at hm)
  have HE0 := Lib.hid hE
  have HM := Lib.hid hm
  rw [parse_pri] at hn ⊢
  obtain ⟨o, ho⟩ : ∃ o, (if sg l = [40] then (parse f .expr (aft (sg l) l)).hard.bind parK else priO f (gap l)) = o := ⟨_, rfl⟩
  have HK := Lib.hid ho
  rw [ho] at hn ⊢
  have HNn := Lib.hid hn
  obtain ⟨Q, hQ⟩ : ∃ Q, PG b T o w = Q := ⟨_, rfl⟩
  rw [hQ]
  have HQ := Lib.hid hQ
  clear hQ h hn hE ho hm
  go_enter Tryz.func215, Tryz.ntmps215
  go_wp2_with fail
  have hs1 : (w.alloc (.cells #[.string ⟨#[]⟩, .int .i64 0, .string ⟨#[]⟩, .slice none 0 0] 25)).heap.size = w.heap.size + 1 := by simp
  generalize w.alloc (.cells #[.string ⟨#[]⟩, .int .i64 0, .string ⟨#[]⟩, .slice none 0 0] 25) = w1 at *
  have HI := isSign_lit b T l [[40]] 1 rfl w1 #[.string ⟨#[40]⟩] rfl HX0.out.rd (by decide) (by decide)
  rw [hs1] at HI
  refine HI.mono ?_
  clear HI hs1
  rintro e w4 ⟨hcase, ho4⟩
  have ba := (Below.refl w1.heap.size w1).alloc (Nat.le_refl _) (.cells #[.string ⟨#[40]⟩] 9)
  have HX4 := Lib.hid (HX0.out.below ba)
  clear ba
  generalize w1.alloc (.cells #[.string ⟨#[40]⟩] 9) = w3' at *
  obtain ⟨bx, hbx⟩ : ∃ bx, w.heap.size = bx := ⟨_, rfl⟩
  rw [hbx] at HX4
  simp only [hbx]
  clear hbx HX0
  rcases hcase with ⟨hin, rfl, hr4⟩ | ⟨hno, rfl, hr4⟩
  · have HX5 := Lib.hid (HX4.out.step hr4 ho4)
    have hin' : sg l = [40] := List.mem_singleton.1 hin
    obtain ⟨o2, ho2⟩ : ∃ o2, (parse f .expr (aft (sg l) l)).hard = o2 := ⟨_, rfl⟩
    have HK2 := Lib.hid ((if_pos hin').symm.trans HK.out)
    rw [ho2] at HK2
    have HN2 := Lib.hid (show parse f .expr (aft (sg l) l) ≠ .none from fun e => HNn.out (by rw [← HK2.out, ← ho2, e]; rfl))
    have HE2 := Lib.hid ((HEx.out (aft (sg l) l) w4 HX5.out.rd HX5.out.only HN2.out).mono (fun e w' hp => PG.hard.2 hp))
    rw [ho2] at HE2
    clear hr4 ho4 hin hin' ho2 HK HX4
    go_wp2_with fail
    refine HE2.out.mono ?_
    intro e w5 hp
    clear HE2
    rcases out_cases o2 with ⟨y, l2, rfl⟩ | hno
    · obtain ⟨v, rfl, hy, hr5, ho5⟩ := hp
      obtain ⟨n5, A5, k5, c5, nm5, rfl, hnm5⟩ := hy.form
      have HB5 := Lib.hid (HX5.out.box hr5 ho5 hy)
      have HK3 := Lib.hid (show parK y l2 = o from HK2.out)
      clear hy hr5 ho5 hnm5 HX5
      go_wp2_with fail
      have hs6 : (w5.alloc (.cells #[.string (toB y.op), .int .i64 (n5 : Int), .string (toB nm5), .slice A5 k5 c5] 25)).heap.size = w5.heap.size + 1 := by simp
      generalize w5.alloc (.cells #[.string (toB y.op), .int .i64 (n5 : Int), .string (toB nm5), .slice A5 k5 c5] 25) = w6 at *
      have HI := isSign_lit b T l2 [[41]] 1 rfl w6 #[.string ⟨#[41]⟩] rfl HB5.out.sx.rd (by decide) (by decide)
      rw [hs6] at HI
      refine HI.mono ?_
      clear HI hs6
      rintro e w7 ⟨hcase, ho7⟩
      have ba := (Below.refl w6.heap.size w6).alloc (Nat.le_refl _) (.cells #[.string ⟨#[41]⟩] 9)
      have HB6 := Lib.hid (HB5.out.below ba)
      clear ba HB5
      generalize w6.alloc (.cells #[.string ⟨#[41]⟩] 9) = w6' at *
      generalize w5.heap.size = gy at *
      rcases hcase with ⟨hin, rfl, hr7⟩ | ⟨hno, rfl, hr7⟩
      · have HB7 := Lib.hid (HB6.out.step hr7 ho7)
        have hin' : sg l2 = [41] := List.mem_singleton.1 hin
        have HK4 := Lib.hid ((if_pos hin').symm.trans HK3.out)
        obtain ⟨c0, c1, c2, c3, cf⟩ := HB7.out.four.cells
        obtain ⟨d0, d1, d2, d3, df⟩ := HB7.out.sx.res.cells
        have hlt7 := HB7.out.sx.lt
        clear hr7 ho7 hin hin' HK3 HB6
        go_wp2_with fail
        have HE := Lib.hid (HB7.out.gives HK4.out.symm)
        obtain ⟨q0, q1, q2, q3, qf⟩ := HE.out.2.cells
        unfold set4 at q0 q1 q2 q3
        refine bodyPost_ret (v := .agg #[.string (toB y.op), .int .i64 (n5 : Int), .string (toB nm5), .slice A5 k5 c5]) (by simp [results, Tryz.results215, go_sem, q0, q1, q2, q3]) rfl ?_
        rw [← HQ.out]
        exact HE.out.1
      · have HB7 := Lib.hid (HB6.out.step hr7 ho7)
        have HK4 := Lib.hid ((if_neg (fun h => hno (List.mem_singleton.2 h))).symm.trans HK3.out)
        have HW := Lib.hid (wrong_any b T (gap l2) w7 hr7)
        clear hr7 ho7 hno HK3 HB6
        go_wp2_with fail
        refine HW.out.mono ?_
        intro e w8 hw
        obtain ⟨hpg, p, cc, rfl⟩ := PG.badAt hw HB7.out.sx.only
        rw [badAt_gap, HK4.out] at hpg
        have HPG := Lib.hid hpg
        clear hw hpg HW
        unfold pan
        go_wp2_with fail
        rw [← HQ.out]
        exact ⟨rfl, HPG.out⟩
    · obtain ⟨p, cc, rfl, ho5, HF⟩ := PG.fail hno hp
      have h0 := HF parK w (HX5.out.only.trans ho5)
      rw [HK2.out] at h0
      have HFF := Lib.hid h0
      clear h0 hp hno ho5 HF
      unfold pan
      go_wp2_with fail
      rw [← HQ.out]
      exact ⟨rfl, HFF.out⟩
  · have HX5 := Lib.hid (HX4.out.step hr4 ho4)
    have HK1 := Lib.hid ((priO_head f (gap l)).symm.trans ((if_neg (fun h => hno (List.mem_singleton.2 h))).symm.trans HK.out))
    have hgg := gap_gap l
    have hsg := skipJ_gap l
    obtain ⟨g, hg⟩ : ∃ g, gap l = g := ⟨_, rfl⟩
    rw [hg] at HX5 HK1 hgg hsg
    have hlen : g.length ≤ 32768 := by
      have h1 := HX5.out.rd.len
      have h2 := HX5.out.rd.pos
      omega
    have HGG := Lib.hid hgg
    have HSG := Lib.hid hsg
    clear hr4 ho4 hno HK HX4 hgg hsg hg
    go_wp2_with fail
    refine (HSk.out g _ HX5.out.rd).mono ?_
    rintro e w5 ⟨rfl, hr5, ho5⟩
    rw [HGG.out] at hr5 ⊢
    have HX6 := Lib.hid (HX5.out.step hr5 ho5)
    clear hr5 ho5 HX5
    obtain ⟨pl, hpl⟩ : ∃ pl, plc T g = pl := ⟨_, rfl⟩
    have HPL := Lib.hid hpl
    rw [hpl]
    clear hpl
    go_wp2_with fail
    refine (HPk.out g _ HX6.out.rd).mono ?_
    rintro e w6 ⟨rfl, hr6, ho6⟩
    rw [HSG.out] at hr6 ⊢
    have HX7 := Lib.hid (HX6.out.step hr6 ho6)
    clear hr6 ho6 HX6
    obtain ⟨hd, hhd⟩ : ∃ hd, headI g = hd := ⟨_, rfl⟩
    have HHD := Lib.hid hhd
    rw [hhd] at HK1 ⊢
    clear hhd
    go_wp2_with fail
    refine (isDigit_any _ _).mono ?_
    rintro e w7 ⟨rfl, rfl⟩
    cases hD : isDB hd with
    | true =>
      rw [hD] at HK1
      have HO := Lib.hid ((if_pos rfl).symm.trans HK1.out)
      have HC := Lib.hid (numeral_any b T g w6 HX7.out.rd HSG.out hlen)
      rw [HO.out, HPL.out] at HC
      clear HK1 hD
      go_wp2_with fail
      refine HC.out.mono ?_
      intro e w8 hp
      clear HC
      rcases out_cases o with ⟨x, l1, rfl⟩ | hno
      · obtain ⟨v, rfl, hx, hr8, ho8⟩ := hp
        obtain ⟨n, A, k, c, nm, rfl, hnm⟩ := hx.form
        have HE := Lib.hid (HX7.out.givesV hr8 ho8 hx rfl)
        have HX8 := Lib.hid (HX7.out.step hr8 ho8)
        clear hx hr8 ho8 hnm
        obtain ⟨d0, d1, d2, d3, df⟩ := HX8.out.res.cells
        go_wp2_with fail
        obtain ⟨q0, q1, q2, q3, qf⟩ := HE.out.2.cells
        unfold set4 at q0 q1 q2 q3
        refine bodyPost_ret (v := .agg #[.string (toB x.op), .int .i64 (n : Int), .string (toB nm), .slice A k c]) (by simp [results, Tryz.results215, go_sem, q0, q1, q2, q3]) rfl ?_
        rw [← HQ.out]
        exact HE.out.1
      · obtain ⟨p, c, rfl, ho8, HF⟩ := PG.fail hno hp
        have h0 := HF Out.ok w (HX7.out.only.trans ho8)
        rw [bind_ok] at h0
        have HFF := Lib.hid h0
        clear hp hno ho8 HF h0
        unfold pan
        go_wp2_with fail
        rw [← HQ.out]
        exact ⟨rfl, HFF.out⟩
    | false =>
      rw [hD] at HK1
      have HK2 := Lib.hid ((if_neg (by decide)).symm.trans HK1.out)
      clear HK1 hD
      go_wp2_with fail
      refine (isLetter_any _ _).mono ?_
      rintro e w7 ⟨rfl, rfl⟩
      cases hL : isLB hd with
      | true =>
        rw [hL] at HK2
        have HO := Lib.hid ((if_pos rfl).symm.trans HK2.out)
        obtain ⟨c0, r0, hg, hc⟩ : ∃ c0 r0, g = c0 :: r0 ∧ isL c0 = true := by
          cases g with
          | nil => rw [← HHD.out] at hL; exact absurd hL (by decide)
          | cons c r => exact ⟨c, r, rfl, by rw [← isLB_u8]; rw [← HHD.out] at hL; exact hL⟩
        have HC := Lib.hid (variable_any f b T HE0.out c0 r0 g w6 hg hc HSG.out HX7.out.rd (HM.out.only HX7.out.only) (by rw [HO.out]; exact HNn.out))
        rw [HO.out, HPL.out] at HC
        clear HK2 hL hg hc
        go_wp2_with fail
        refine HC.out.mono ?_
        intro e w8 hp
        clear HC
        rcases out_cases o with ⟨x, l1, rfl⟩ | hno
        · obtain ⟨v, rfl, hx, hr8, ho8⟩ := hp
          obtain ⟨n, A, k, c, nm, rfl, hnm⟩ := hx.form
          have HE := Lib.hid (HX7.out.givesV hr8 ho8 hx rfl)
          have HX8 := Lib.hid (HX7.out.step hr8 ho8)
          clear hx hr8 ho8 hnm
          obtain ⟨d0, d1, d2, d3, df⟩ := HX8.out.res.cells
          go_wp2_with fail
          obtain ⟨q0, q1, q2, q3, qf⟩ := HE.out.2.cells
          unfold set4 at q0 q1 q2 q3
          refine bodyPost_ret (v := .agg #[.string (toB x.op), .int .i64 (n : Int), .string (toB nm), .slice A k c]) (by simp [results, Tryz.results215, go_sem, q0, q1, q2, q3]) rfl ?_
          rw [← HQ.out]
          exact HE.out.1
        · obtain ⟨p, c, rfl, ho8, HF⟩ := PG.fail hno hp
          have h0 := HF Out.ok w (HX7.out.only.trans ho8)
          rw [bind_ok] at h0
          have HFF := Lib.hid h0
          clear hp hno ho8 HF h0
          unfold pan
          go_wp2_with fail
          rw [← HQ.out]
          exact ⟨rfl, HFF.out⟩
      | false =>
        rw [hL] at HK2
        have HK3 := Lib.hid ((if_neg (by decide)).symm.trans HK2.out)
        clear HK2 hL
        by_cases h36 : hd = 36
        · have h36b : (hd == 36) = true := by rw [h36]; rfl
          have HO := Lib.hid ((if_pos h36).symm.trans HK3.out)
          obtain ⟨l0, hg0⟩ : ∃ l0, g = 36 :: l0 := headI_inj.1 (HHD.out.trans h36)
          have HC := Lib.hid (dollar_any b T g l0 w6 HX7.out.rd hg0 HSG.out hlen)
          rw [HO.out, HPL.out] at HC
          clear HK3 h36 hg0
          go_wp2_with fail
          refine HC.out.mono ?_
          intro e w8 hp
          clear HC
          rcases out_cases o with ⟨x, l1, rfl⟩ | hno
          · obtain ⟨v, rfl, hx, hr8, ho8⟩ := hp
            obtain ⟨n, A, k, c, nm, rfl, hnm⟩ := hx.form
            have HE := Lib.hid (HX7.out.givesV hr8 ho8 hx rfl)
            have HX8 := Lib.hid (HX7.out.step hr8 ho8)
            clear hx hr8 ho8 hnm
            obtain ⟨d0, d1, d2, d3, df⟩ := HX8.out.res.cells
            go_wp2_with fail
            obtain ⟨q0, q1, q2, q3, qf⟩ := HE.out.2.cells
            unfold set4 at q0 q1 q2 q3
            refine bodyPost_ret (v := .agg #[.string (toB x.op), .int .i64 (n : Int), .string (toB nm), .slice A k c]) (by simp [results, Tryz.results215, go_sem, q0, q1, q2, q3]) rfl ?_
            rw [← HQ.out]
            exact HE.out.1
          · obtain ⟨p, c, rfl, ho8, HF⟩ := PG.fail hno hp
            have h0 := HF Out.ok w (HX7.out.only.trans ho8)
            rw [bind_ok] at h0
            have HFF := Lib.hid h0
            clear hp hno ho8 HF h0
            unfold pan
            go_wp2_with fail
            rw [← HQ.out]
            exact ⟨rfl, HFF.out⟩
        · have h36b : (hd == 36) = false := beq_eq_false_iff_ne.2 h36
          have HO := Lib.hid ((if_neg h36).symm.trans HK3.out)
          have HB := Lib.hid (show badAt g = o by rw [← HO.out]; unfold badAt; rw [HGG.out])
          have HW := Lib.hid (wrong_any b T g w6 HX7.out.rd)
          clear HK3 h36
          go_wp2_with fail
          refine HW.out.mono ?_
          intro e w8 hw
          obtain ⟨hpg, p, cc, rfl⟩ := PG.badAt hw HX7.out.only
          rw [HB.out] at hpg
          have HPG := Lib.hid hpg
          clear hw hpg HW
          unfold pan
          go_wp2_with fail
          rw [← HQ.out]
          exact ⟨rfl, HPG.out⟩

end Go.Proofs.YtiigclkebnmopaaGreatDoor

namespace Go.Proofs.YtiigclkebnmopaaGreatDoor
open Go.RowKit Go.Shelf

structure Reads (f b : Nat) (T : List UInt8) : Prop where
  expr : Ctr 20 .expr f b T
  assign : Ctr 54 .assign f b T
  choice : Ctr 99 .choice f b T
  lev : ∀ lv, lv ≤ 10 → CtrL lv f b T
  pre : Ctr 196 .pre f b T
  suf : Ctr 213 .suf f b T
  prim : Ctr 215 .prim f b T
theorem reads_zero (b : Nat) (T : List UInt8) : Reads 0 b T :=
  ⟨fun _ _ _ _ hn => absurd rfl hn, fun _ _ _ _ hn => absurd rfl hn, fun _ _ _ _ hn => absurd rfl hn, fun _ _ _ _ _ _ hn => absurd rfl hn, fun _ _ _ _ hn => absurd rfl hn, fun _ _ _ _ hn => absurd rfl hn, fun _ _ _ _ hn => absurd rfl hn⟩
theorem reads_succ (f b : Nat) (T : List UInt8) (h : ∀ f', f' ≤ f → Reads f' b T) : Reads (f + 1) b T := by
  have h0 := h f (Nat.le_refl f)
  exact ⟨expression_any f b T (fun f' hf => (h f' hf).assign), assignment_any f b T h0.choice h0.assign, choice_any f b T (h0.lev 0 (by omega)) h0.expr h0.choice,
    fun lv hlv => level_any f b lv T hlv h0.pre (fun hl f' hf => (h f' hf).lev (lv + 1) (by omega)), prefix_any f b T h0.prim h0.suf h0.pre, suffix_any f b T h0.prim, primary_any f b T h0.expr⟩
theorem reads_any (b : Nat) (T : List UInt8) : ∀ f, Reads f b T := by
  intro f
  induction f using Nat.strongRecOn with
  | ind f ih =>
    cases f with
    | zero => exact reads_zero b T
    | succ f => exact reads_succ f b T (fun f' hf => ih f' (by omega))

end Go.Proofs.YtiigclkebnmopaaGreatDoor
