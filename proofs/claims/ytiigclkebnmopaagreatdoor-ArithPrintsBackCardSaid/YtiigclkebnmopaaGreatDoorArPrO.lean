/- Arithmetic expressions: the program's PrintArith. -/
import Derived.Test.YtiigclkebnmopaaGreatDoorArPrM
import Derived.Test.YtiigclkebnmopaaGreatDoorArPrN
import Derived.Test.YtiigclkebnmopaaGreatDoorArPrL
namespace Go.Proofs.YtiigclkebnmopaaGreatDoor
open Go.RowKit Go.Shelf

/-- what PrintArith answers where the printer wrote t -/
def pans (t : List UInt8) (bd : Bool) (x : Ex) : List UInt8 × Int := if bd = true then ([], 5) else match allP t with
  | .ok y l => if l = [] ∧ eqX x y = true then (t, 0) else ([], 5)
  | _ => ([], 5)
def WPA (t : List UInt8) (bd : Bool) (x : Ex) (w : World) (e : Ending) (w' : World) : Prop := e = .returned (.tuple #[.string (toB (pans t bd x).1), .int .i64 (pans t bd x).2]) ∧ Below w.heap.size w w' ∧ ∀ y l, allP t = .ok y l → ∃ pre, t = pre ++ l

theorem WPG.two {b y : Nat} {T : List UInt8} {o : Out} {w w' : World} {e : Ending} (h : WPG b y T o w e w') : (∃ pl c : Int, e = .returned (.agg #[.int .i64 pl, .int .i64 c]) ∧ c ≠ 0 ∧ Only2 b y w w' ∧ ∀ x l, o ≠ .ok x l) ∨
    ∃ x l v0 v1 v2 v3, o = .ok x l ∧ e = .returned (.agg #[.int .i64 0, .int .i64 0]) ∧ Four w' y v0 v1 v2 v3 ∧ ExV (fun g => w.heap.size ≤ g) w' (.agg #[v0, v1, v2, v3]) x ∧ Rd w' b T l ∧ Only2 b y w w' := by
  cases o with
  | ok x l => obtain ⟨v0, v1, v2, v3, h⟩ := h; exact .inr ⟨x, l, v0, v1, v2, v3, rfl, h⟩
  | bad l => exact .inl ⟨_, 1, h.1, by decide, h.2, fun _ _ h => by cases h⟩
  | stuck l => exact .inl ⟨_, 1, h.1, by decide, h.2, fun _ _ h => by cases h⟩
  | more => exact .inl ⟨_, 27, h.1, by decide, h.2, fun _ _ h => by cases h⟩
  | none => exact h.elim
theorem pans_no {t : List UInt8} {bd : Bool} {x : Ex} (h : ∀ y l, allP t ≠ .ok y l) : pans t bd x = ([], 5) := by
  unfold pans
  split
  · rfl
  · cases ho : allP t with
    | ok y l => exact absurd ho (h y l)
    | _ => rfl
theorem Pr.new (w : World) : Pr (w.alloc (.cells #[.pointer none, .slice none 0 0, .slice none 0 0, .bool false] 87)) w.heap.size w.heap.size [] false :=
  ⟨.pointer none, .slice none 0 0, heap_alloc_new w _, ⟨by simp [bytesV], .inl ⟨rfl, rfl⟩⟩, .inl rfl, Nat.le_refl _⟩

theorem ExV.only2 {B : Nat} {w w' : World} {y z : Nat} {v : Value} {x : Ex} (h : ExV (fun g => g < B) w v x) (ho : Only2 y z w w') (hy : B ≤ y) (hz : B ≤ z) : ExV (fun g => g < B) w' v x :=
  ExV.keep ho.size (fun g hP hg => ⟨ho.block g hg (by have h2 : g < B := hP; omega) (by have h2 : g < B := hP; omega), hP⟩) x h
theorem pans_ok {t : List UInt8} {x y : Ex} {l : List UInt8} (h : allP t = .ok y l) : pans t false x = if l = [] ∧ eqX x y = true then (t, 0) else ([], 5) := by
  unfold pans
  rw [if_neg (by decide), h]
theorem pans_bad {t : List UInt8} {x : Ex} : pans t true x = ([], 5) := by
  unfold pans
  rw [if_pos rfl]

theorem only_ok (s : ByteArray) (w : World) : Calls Tryz.prog 47 #[.string s, .int .i64 0] w fun e w' => e = .returned (.tuple #[.string s, .int .i64 0]) ∧ w' = w := by
  obtain ⟨Q, hQ⟩ : ∃ Q : Ending → World → Prop, (fun e w' => e = .returned (.tuple #[.string s, .int .i64 0]) ∧ w' = w) = Q := ⟨_, rfl⟩
  rw [hQ]
  have HQ := Lib.hid hQ
  clear hQ
  go_enter Tryz.func47, Tryz.ntmps47
  go_wp2_with fail
  rw [← HQ.out]
  exact ⟨rfl, rfl⟩
set_option maxRecDepth 100000 in
set_option maxHeartbeats 6400000 in
theorem wprint_any (P : Nat → Prop) (x : Ex) (t : List UInt8) (bd : Bool) (v : Value) (w : World) (hx : ExV P w v x) (hpw : PW w) (hpx : PX w) (HP : ∀ w0 b, W0 w0 b b → PE w0 b b x t bd) (ht : t ≠ []) (htl : t.length ≤ 32768) (hd : x.depth ≤ 50) (hs : x.size ≤ 1048576) :
    Calls Tryz.prog 14 #[v] w (WPA t bd x w) := by
  obtain ⟨n5, A5, k5, c5, nm5, rfl, hq⟩ := hx.form
  clear hq
  obtain ⟨Q, hQ⟩ : ∃ Q, WPA t bd x w = Q := ⟨_, rfl⟩
  rw [hQ]
  have HQ := Lib.hid hQ
  have HW := Lib.hid (And.intro hpw hpx)
  have HPE := Lib.hid HP
  have HT0 := Lib.hid ht
  have ba := (Below.refl w.heap.size w).alloc (Nat.le_refl _) (.cells #[.string (toB x.op), .int .i64 n5, .string (toB nm5), .slice A5 k5 c5] 25)
  have F1 := Four.new w (.string (toB x.op)) (.int .i64 n5) (.string (toB nm5)) (.slice A5 k5 c5)
  have s1 : (w.alloc (.cells #[.string (toB x.op), .int .i64 n5, .string (toB nm5), .slice A5 k5 c5] 25)).heap.size = w.heap.size + 1 := by simp
  have bb := (Below.refl _ (w.alloc (.cells #[.string (toB x.op), .int .i64 n5, .string (toB nm5), .slice A5 k5 c5] 25))).alloc (Nat.le_refl _) (.cells #[.int .i64 0, .int .i64 0] 62)
  have HM := heap_alloc_new (w.alloc (.cells #[.string (toB x.op), .int .i64 n5, .string (toB nm5), .slice A5 k5 c5] 25)) (.cells #[.int .i64 0, .int .i64 0] 62)
  rw [s1] at HM
  have HM2 := Lib.hid (show Mt _ (w.heap.size + 1) 0 from HM)
  have HF2 := Lib.hid (F1.keep bb)
  have HB2 := Lib.hid (ba.trans (bb.mono ba.size))
  have hX1 := hx.mono (Q := fun g => g < w.heap.size) (fun g _ hgl => hgl)
  have HX2 := Lib.hid ((hX1.below ba).below bb)
  have hs2 : ((w.alloc (.cells #[.string (toB x.op), .int .i64 n5, .string (toB nm5), .slice A5 k5 c5] 25)).alloc (.cells #[.int .i64 0, .int .i64 0] 62)).heap.size = w.heap.size + 2 := by simp
  clear hQ hpw hpx HP ht hx ba F1 s1 bb HM hX1
  go_enter Tryz.func14, Tryz.ntmps14
  go_upto_region 2 with fail
  generalize (w.alloc (.cells #[.string (toB x.op), .int .i64 n5, .string (toB nm5), .slice A5 k5 c5] 25)).alloc (.cells #[.int .i64 0, .int .i64 0] 62) = w2 at *
  obtain ⟨c0, c1, c2, c3, cf⟩ := HF2.out.cells
  go_wp2_with fail
  have HMe := Lib.hid (mexpr_any (w.heap.size + 1) (fun g => g < w.heap.size) (by omega) x.size x (Nat.le_refl _) 1 0 _ w2 HX2.out HM2.out (by omega) (by omega) (by omega))
  rw [show ((1 : Nat) : Int) = 1 from rfl] at HMe
  refine HMe.out.mono ?_
  rintro e w3 ⟨rfl, ⟨n', hn', hm'⟩, ho3⟩
  rw [show codeD 1 x.depth = 0 by unfold codeD; rw [if_neg (by omega)]]
  obtain ⟨m1, mf⟩ := hm'.cells
  have HB3 := Lib.hid (below_only HB2.out ho3 (by omega))
  have HF3 := Lib.hid (HF2.out.only ho3 (by omega))
  have HX3 := Lib.hid (HX2.out.only ho3 (fun h => by have h2 : w.heap.size + 1 < w.heap.size := h; omega))
  have hs3 := ho3.size
  have hng : ¬ (1048576 : Int) < (n' : Int) := by omega
  clear hm' ho3 HB2 HF2 HX2 HMe HM2 c0 c1 c2 c3 cf
  go_upto_region 6 with fail
  have hw0 : W0 w3 w3.heap.size w3.heap.size := ⟨rfl, HW.out.1.keep HB3.out, Nat.le_refl _, HW.out.2.below HB3.out⟩
  have bp := (Below.refl w3.heap.size w3).alloc (Nat.le_refl _) (.cells #[.pointer none, .slice none 0 0, .slice none 0 0, .bool false] 87)
  have HPr := Lib.hid (Pr.new w3)
  have HBp := Lib.hid bp
  have HFp := Lib.hid (HF3.out.keep bp)
  have HXp := Lib.hid ((HX3.out.mono (Q := fun g => g < w3.heap.size) (fun g hg _ => Nat.lt_of_lt_of_le hg (by have h2 := HB3.out.size; exact h2))).below bp)
  clear bp m1 mf
  generalize w3.alloc (.cells #[.pointer none, .slice none 0 0, .slice none 0 0, .bool false] 87) = wA at *
  obtain ⟨c0, c1, c2, c3, cf⟩ := HFp.out.cells
  go_wp2_with fail
  refine (HPE.out w3 w3.heap.size hw0 _ wA [] false HXp.out HPr.out HBp.out (by simp; omega)).mono ?_
  rintro e w4 ⟨rfl, hp4, hf4⟩
  simp only [List.nil_append, Bool.false_or] at hp4
  clear c0 c1 c2 c3 cf
  go_wp2_with fail
  refine (st_any w3.heap.size w3.heap.size t bd w4 hp4 HT0.out (by omega)).mono ?_
  rintro e w5 ⟨rfl, hc5, hf5⟩
  have HB5 := Lib.hid (below_PF (((PF.ofBelow HBp.out).trans hf4).trans hf5) (Nat.le_refl _) (Nat.le_refl _))
  have hl5 : w3.heap.size < w5.heap.size := Nat.lt_of_lt_of_le hp4.lt hf5.size
  clear hp4 hf4 hf5 HPr HBp HFp HXp hw0
  obtain ⟨bx, hbx⟩ : ∃ bx, w5.heap.size = bx + 1 := ⟨w5.heap.size - 1, by omega⟩
  have HS := Lib.hid (WS.start (T := t) hbx htl)
  have hmf : ∀ (fn : Fn) (first cap : Array Value) (w : World), (Instr.makeFunc fn first cap).run Tryz.prog w = .ok (.func fn first cap) w := fun _ _ _ _ => rfl
  go_upto_region 10 with fail
  try simp only [hbx]
  generalize ((w5.alloc (.cells #[.string (toB t), .int .i64 0, .bool false, .slice none 0 0, .int .i64 0, .bool false] 52)).alloc (.cells #[.pointer (some ⟨bx + 1, 0, none⟩)] 49)).alloc (.cells #[.string ⟨#[]⟩, .int .i64 0, .string ⟨#[]⟩, .slice none 0 0] 25) = w6 at *
  go_wp2_with fail
  have HB6 := Lib.hid (HB3.out.trans ((HB5.out.trans (HS.out.below.mono HB5.out.size)).mono HB3.out.size))
  have hc6 := (HS.out.below.cell (p := ⟨w3.heap.size, 3, none⟩) hl5).trans hc5
  have HF6 := Lib.hid ((HF3.out.keep HB5.out).keep HS.out.below)
  have HX6 := Lib.hid ((HX3.out.below HB5.out).below HS.out.below)
  have hM : MX (bx + 1) w6 := by
    obtain ⟨h0, m, hm⟩ := HW.out.2
    have := HB6.out.size
    exact ⟨by omega, by omega, m, (World.cell?_of_block (a := ⟨0, 0, none⟩) (HB6.out.block 0 h0)).trans hm⟩
  have hs6 := HS.out.size
  have HPt := Lib.hid (show One w6 (bx + 2) 49 (.pointer (some ⟨bx + 1, 0, none⟩)) from HS.out.ptr)
  refine (pcaught (bx + 1) (bx + 1 + 1) (bx + 1 + 1 + 1) t w6 HS.out.rd hM HS.out.ptr.cell (by omega) (by omega) (by omega) HS.out.four (by omega)).mono ?_
  intro e w7 hg
  clear hM HS HF3 HX3 HB5 hc5
  have two := hg.two
  clear hg
  have k : Only2 (bx + 1) (bx + 3) w6 w7 := by rcases two with ⟨_, _, _, _, k, _⟩ | ⟨_, _, _, _, _, _, _, _, _, _, _, k⟩ <;> exact k
  have HB7 := Lib.hid (below_only2 HB6.out k (by omega) (by omega))
  have hc7 := (World.cell?_of_block (a := ⟨w3.heap.size, 3, none⟩) (k.block _ (show w3.heap.size < _ by omega) (by show w3.heap.size ≠ _; omega) (by show w3.heap.size ≠ _; omega))).trans hc6
  have HF7 := Lib.hid (show Four w7 w.heap.size (.string (toB x.op)) (.int .i64 n5) (.string (toB nm5)) (.slice A5 k5 c5) from (k.block w.heap.size HF6.out.lt (by omega) (by omega)).trans HF6.out)
  have HX7 := Lib.hid (HX6.out.only2 k (by omega) (by omega))
  have HP7 := Lib.hid (show One w7 (bx + 2) 49 (.pointer (some ⟨bx + 1, 0, none⟩)) from (k.block (bx + 2) HPt.out.lt (by omega) (by omega)).trans HPt.out)
  have hs7 := k.size
  clear k hc6 HF6 HX6 HPt HB6
  rcases two with ⟨pl, c, rfl, hc, _, hno⟩ | ⟨y, l, v0, v1, v2, v3, ho, rfl, hf, hxv, hr, _⟩
  · have HA := Lib.hid (pans_no (bd := bd) (x := x) hno)
    have HSf := Lib.hid (show ∀ y l, allP t = .ok y l → ∃ pre, t = pre ++ l from fun y l h => absurd h (hno y l))
    have hcb : (c != 0) = true := by simpa using hc
    have ba := (Below.refl w7.heap.size w7).alloc (Nat.le_refl _) (.cells #[.int .i64 pl, .int .i64 c] 54)
    have HP8 := Lib.hid (Prb.new w7 pl c)
    have HB8 := Lib.hid (HB7.out.trans (ba.mono HB7.out.size))
    have hc8 := (ba.cell (p := ⟨w3.heap.size, 3, none⟩) (show w3.heap.size < _ by omega)).trans hc7
    clear ba hno hc HB7 HF7 HX7 HP7 hc7
    go_upto_region 11 with fail
    generalize w7.alloc (.cells #[.int .i64 pl, .int .i64 c] 54) = w8 at *
    obtain ⟨k0, k1, kf⟩ := HP8.out.cells
    cases bd with
    | true =>
      go_wp2_with fail
      rw [← HQ.out]
      refine ⟨by rw [HA.out]; rfl, ?_⟩
      exact ⟨by first | exact HB8.out | exact HB8.out.drew, HSf.out⟩
    | false =>
      go_wp2_with fail
      rw [← HQ.out]
      refine ⟨by rw [HA.out]; rfl, ?_⟩
      exact ⟨by first | exact HB8.out | exact HB8.out.drew, HSf.out⟩
  · have hysz : y.size ≤ 1048576 := Nat.le_trans (parse_parts ho) (by omega)
    obtain ⟨n6, A6, k6, c6, nm6, hv, hnm⟩ := hxv.form
    clear hnm
    simp only [Value.agg.injEq, Array.mk.injEq, List.cons.injEq, and_true] at hv
    obtain ⟨rfl, rfl, rfl, rfl⟩ := hv
    have ba := (Below.refl w7.heap.size w7).alloc (Nat.le_refl _) (.cells #[.int .i64 0, .int .i64 0] 54)
    have HP8 := Lib.hid (Prb.new w7 0 0)
    have HB8 := Lib.hid (HB7.out.trans (ba.mono HB7.out.size))
    have hc8 := (ba.cell (p := ⟨w3.heap.size, 3, none⟩) (show w3.heap.size < _ by omega)).trans hc7
    have HF8 := Lib.hid (HF7.out.keep ba)
    have HX8 := Lib.hid (HX7.out.below ba)
    have HG8 := Lib.hid (hf.keep ba)
    have HY8 := Lib.hid (hxv.below ba)
    have HR8 := Lib.hid (hr.keep ba)
    have HO8 := Lib.hid (show One _ (bx + 2) 49 (.pointer (some ⟨bx + 1, 0, none⟩)) from (ba.block _ HP7.out.lt).trans HP7.out)
    have HPo := Lib.hid (pans_ok (x := x) ho)
    have HSf := Lib.hid (show ∀ y l, allP t = .ok y l → ∃ pre, t = pre ++ l from fun y' l' h => by rw [ho] at h; cases h; exact hr.suf)
    clear ba ho hf hxv hr HB7 HF7 HX7 HP7 hc7
    go_upto_region 11 with fail
    generalize w7.alloc (.cells #[.int .i64 0, .int .i64 0] 54) = w8 at *
    obtain ⟨k0, k1, kf⟩ := HP8.out.cells
    cases bd with
    | true =>
      have HA := Lib.hid (pans_bad (t := t) (x := x))
      go_wp2_with fail
      rw [← HQ.out]
      refine ⟨by rw [HA.out]; rfl, ?_⟩
      exact ⟨by first | exact HB8.out | exact HB8.out.drew, HSf.out⟩
    | false =>
      obtain ⟨p, lf, hp, hlf1, hlf2, hdr, r0, r1, r2, r4, rf, rbx⟩ := HR8.out.cells
      have hszt := toB_size t
      have o1 := HO8.out.cell
      obtain ⟨c0, c1, c2, c3, cf⟩ := HF8.out.cells
      obtain ⟨d0, d1, d2, d3, df⟩ := HG8.out.cells
      clear hdr rbx hlf1 hlf2 r4
      by_cases hl : l = []
      · have hpe : ((p : Int) != (t.length : Int)) = false := by subst hl; simp at hp; simp [hp]
        have HSm := Lib.hid (same_any (fun g => g < w.heap.size) (fun g => w6.heap.size ≤ g) x.size x (Nat.le_refl _) hs y hysz _ _ w8 HX8.out HY8.out)
        cases he : eqX x y with
        | true =>
          have HA := Lib.hid (HPo.out.trans (if_pos ⟨hl, he⟩))
          rw [he] at HSm
          clear he hl HPo hp
          go_wp2_with fail
          refine HSm.out.mono ?_
          rintro e w9 ⟨rfl, hb9⟩
          have HB9 := Lib.hid (HB8.out.trans (hb9.mono HB8.out.size))
          clear hb9
          go_wp2_with fail
          refine (only_ok _ _).mono ?_
          rintro e w10 ⟨rfl, rfl⟩
          go_wp2_with fail
          rw [← HQ.out]
          exact ⟨by rw [HA.out]; rfl, HB9.out, HSf.out⟩
        | false =>
          have HA := Lib.hid (HPo.out.trans (if_neg (by rw [he]; simp)))
          rw [he] at HSm
          clear he hl HPo hp
          go_wp2_with fail
          refine HSm.out.mono ?_
          rintro e w9 ⟨rfl, hb9⟩
          have HB9 := Lib.hid (HB8.out.trans (hb9.mono HB8.out.size))
          clear hb9
          go_wp2_with fail
          rw [← HQ.out]
          exact ⟨by rw [HA.out]; rfl, HB9.out, HSf.out⟩
      · have hl2 : 0 < l.length := List.length_pos_iff.2 hl
        have hpe : ((p : Int) != (t.length : Int)) = true := by rw [bne_iff_ne]; omega
        have HA := Lib.hid (HPo.out.trans (if_neg (by simp [hl])))
        clear HPo
        go_wp2_with fail
        rw [← HQ.out]
        refine ⟨by rw [HA.out]; rfl, ?_⟩
        exact ⟨by first | exact HB8.out | exact HB8.out.drew, HSf.out⟩

end Go.Proofs.YtiigclkebnmopaaGreatDoor
