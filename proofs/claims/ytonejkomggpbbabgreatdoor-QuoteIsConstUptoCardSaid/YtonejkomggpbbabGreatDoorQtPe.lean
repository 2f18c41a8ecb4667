/- QuoteIsConst: a piece in single quotes, and an escaped quote. -/
import Derived.Test.YtonejkomggpbbabGreatDoorQtPd
namespace Go.Proofs.YtonejkomggpbbabGreatDoor
open Go.RowKit Go.Shelf

set_option maxRecDepth 100000 in
set_option maxHeartbeats 3200000 in
theorem piece_back (B b y : Nat) (T l s : List UInt8) (v : Value) (L : List KT) (w : World) (h : Rd w b T (92 :: 39 :: l)) (hq : QR l s) (hQ : BQ B y v L w) (hb : b < B) (hy : b ≠ y) (hn : L.length ≤ 1000000) (hk : kindQ L) :
    Calls Tryz.prog 43 #[.pointer (some ⟨b, 0, none⟩), .pointer (some ⟨y, 0, none⟩)] w (PcG B b y T (92 :: 39 :: l) L w (catQ L ++ 39 :: s)) := by
  have hsk : skipJ (92 :: 39 :: l) = 92 :: 39 :: l := qr_skip (QR.back l s hq)
  have HPk := Lib.hid (peek_any b T (92 :: 39 :: l) w h)
  unfold PeekGives at HPk
  rw [hsk] at HPk
  have HQB := Lib.hid hQ
  have HKd := Lib.hid hk
  have HQR := Lib.hid hq
  obtain ⟨Q, hQQ⟩ : ∃ Q, PcG B b y T (92 :: 39 :: l) L w (catQ L ++ 39 :: s) = Q := ⟨_, rfl⟩
  rw [hQQ]
  have HQ := Lib.hid hQQ
  clear h hQ hk hq hsk hQQ
  go_enter Tryz.func43, Tryz.ntmps43
  go_wp2_with fail
  refine HPk.out.mono ?_
  rintro e w1 ⟨rfl, hr1, ho1⟩
  have HQ1 := Lib.hid (HQB.out.only ho1 hb hy)
  have HF1 := Lib.hid ((Fr2.refl B b y w).only ho1 HQB.out.le)
  rw [show headI (92 :: 39 :: l) = 92 from rfl]
  obtain ⟨p, lf, hp, hlf1, hlf2, hd, c0, c1, c2, c4, cf, hbx⟩ := hr1.cells
  have hlen : (92 :: 39 :: l).length = l.length + 2 := rfl
  rw [hlen] at hp
  have hT := hr1.len
  have HR2 := Lib.hid (hr1.store (q := p + 1) (l' := 39 :: l) (by simp; omega) (by rw [← List.drop_drop, hd]; rfl))
  have HO2 := Lib.hid ((Only.refl b w1).setCell (i := 1) (.int .i64 ((p + 1 : Nat) : Int)))
  have HQ2 := Lib.hid (HQ1.out.only HO2.out hb hy)
  have HF2 := Lib.hid (HF1.out.only HO2.out HQ1.out.le)
  rw [show ((p + 1 : Nat) : Int) = (p : Int) + 1 by simp] at HR2 HO2 HQ2 HF2
  have hw1 : IntKind.i64.wrap ((p : Int) + 1) = (p : Int) + 1 := IntWalk.i64_in _ (by omega)
  clear hr1 ho1 hbx hd hlen c0 c2 c4
  go_upto_region 4 with fail
  generalize w1.setCell ⟨b, 1, none⟩ (.int .i64 ((p : Int) + 1)) = w2 at *
  clear c1 cf
  have HE := Lib.hid (escaped_any b T 39 l w2 HR2.out)
  unfold NextGives at HE
  go_wp2_with fail
  refine HE.out.mono ?_
  rintro e w3 ⟨rfl, hr3, ho3⟩
  have HR3 := Lib.hid hr3
  have HQ3 := Lib.hid (HQ2.out.only ho3 hb hy)
  have HF3 := Lib.hid (HF2.out.only ho3 HQ2.out.le)
  have hcv := one_string (c := 39) (heap_alloc_new w3 (.cells #[.int .u8 ((39 : UInt8).toNat : Int)] 5))
  rw [show (((39 : UInt8).toNat : Nat) : Int) = 39 from rfl] at hcv ⊢
  have hba := (Below.refl w3.heap.size w3).alloc (Nat.le_refl _) (.cells #[.int .u8 39] 5)
  have HR4 := Lib.hid (HR3.out.keep hba)
  have HQ4 := Lib.hid (HQ3.out.alloc (.cells #[.int .u8 39] 5))
  have HF4 := Lib.hid (HF3.out.only (Only.of (b := b) hba (Nat.le_refl _)) HQ3.out.le)
  have HA := Lib.hid (add_any B y v L 2 [39] (w3.alloc (.cells #[.int .u8 39] 5)) HQ4.out hn)
  clear hr3 ho3 hba
  go_wp2_with fail
  refine HA.out.mono ?_
  rintro e w5 ⟨rfl, v', hb5, hr5⟩
  have HZ := Lib.hid (show PcG B b y T (92 :: 39 :: l) L w (catQ L ++ 39 :: s) (.returned (.tuple #[])) w5 from ⟨rfl, v', _, l, s, HR4.out.rest hr5 hb hy, hb5, HF4.out.rest hr5, HQR.out, by rw [catQ_app, catQ_one]; simp, by simp; omega, fun p hp => by
    rcases List.mem_append.1 hp with hp | hp
    · exact HKd.out p hp
    · rw [List.mem_singleton.1 hp]; exact .inr (.inl rfl), by simp⟩)
  clear hb5 hr5
  go_wp2_with fail
  go_end0
  rw [← HQ.out]
  exact HZ.out
theorem text_from (T : List UInt8) (p : Nat) : ((toB T).extract p T.length) = toB (T.drop p) := by
  apply ByteArray.ext
  simp [toB, ByteArray.data_extract]
  exact List.take_of_length_le (by simp)
theorem text_part (T : List UInt8) (p n : Nat) : ((toB T).extract p (p + n)) = toB ((T.drop p).take n) := by
  apply ByteArray.ext
  simp [toB, ByteArray.data_extract, List.extract_eq_take_drop]
theorem ib_hit39 (t r : List UInt8) (h : (39 : UInt8) ∉ t) : Lib.indexByte (t ++ 39 :: r) 39 = (t.length : Int) := by
  induction t with
  | nil => rfl
  | cons a t ih =>
    simp only [List.mem_cons, not_or] at h
    rw [List.cons_append, Lib.indexByte, if_neg (by simp; exact fun e => h.1 e.symm), ih h.2, if_neg (by simp)]
    simp
set_option maxRecDepth 100000 in
set_option maxHeartbeats 3200000 in
theorem piece_one (B b y : Nat) (T t l s : List UInt8) (v : Value) (L : List KT) (w : World) (h : Rd w b T (39 :: (t ++ 39 :: l))) (h39 : (39 : UInt8) ∉ t) (hq : QR l s) (hQ : BQ B y v L w) (hb : b < B) (hy : b ≠ y) (hn : L.length ≤ 1000000) (hk : kindQ L) :
    Calls Tryz.prog 43 #[.pointer (some ⟨b, 0, none⟩), .pointer (some ⟨y, 0, none⟩)] w (PcG B b y T (39 :: (t ++ 39 :: l)) L w (catQ L ++ (t ++ s))) := by
  have hsk : skipJ (39 :: (t ++ 39 :: l)) = 39 :: (t ++ 39 :: l) := qr_skip (QR.one t l s h39 hq)
  have HPk := Lib.hid (peek_any b T (39 :: (t ++ 39 :: l)) w h)
  unfold PeekGives at HPk
  rw [hsk] at HPk
  have HQB := Lib.hid hQ
  have HKd := Lib.hid hk
  have HQR := Lib.hid hq
  obtain ⟨Q, hQQ⟩ : ∃ Q, PcG B b y T (39 :: (t ++ 39 :: l)) L w (catQ L ++ (t ++ s)) = Q := ⟨_, rfl⟩
  rw [hQQ]
  have HQ := Lib.hid hQQ
  clear h hQ hk hq hsk hQQ
  go_enter Tryz.func43, Tryz.ntmps43
  go_wp2_with fail
  refine HPk.out.mono ?_
  rintro e w1 ⟨rfl, hr1, ho1⟩
  have HQ1 := Lib.hid (HQB.out.only ho1 hb hy)
  have HF1 := Lib.hid ((Fr2.refl B b y w).only ho1 HQB.out.le)
  rw [show headI (39 :: (t ++ 39 :: l)) = 39 from rfl]
  obtain ⟨p, lf, hp, hlf1, hlf2, hd, c0, c1, c2, c4, cf, hbx⟩ := hr1.cells
  have hlen : (39 :: (t ++ 39 :: l)).length = t.length + l.length + 2 := by simp; omega
  rw [hlen] at hp
  have hT := hr1.len
  have hd1 : T.drop (p + 1) = t ++ 39 :: l := by rw [← List.drop_drop, hd]; rfl
  have hd2 : T.drop (p + 1 + t.length + 1) = l := by
    rw [← List.drop_drop, ← List.drop_drop, hd1]
    simp
  have HR2 := Lib.hid (hr1.store (q := p + 1) (l' := t ++ 39 :: l) (by simp; omega) hd1)
  have HO2 := Lib.hid ((Only.refl b w1).setCell (i := 1) (.int .i64 ((p + 1 : Nat) : Int)))
  have HQ2 := Lib.hid (HQ1.out.only HO2.out hb hy)
  have HF2 := Lib.hid (HF1.out.only HO2.out HQ1.out.le)
  rw [show ((p + 1 : Nat) : Int) = (p : Int) + 1 by simp] at HR2 HO2 HQ2 HF2
  have hw1 : IntKind.i64.wrap ((p : Int) + 1) = (p : Int) + 1 := IntWalk.i64_in _ (by omega)
  clear hr1 ho1 hbx hd hlen c0 c2 c4
  go_upto_region 7 with fail
  generalize w1.setCell ⟨b, 1, none⟩ (.int .i64 ((p : Int) + 1)) = w2 at *
  clear c1 cf
  have HD2 := Lib.hid hd2
  have HD1 := Lib.hid hd1
  obtain ⟨p2, lf2, hp2, _, _, hdp2, c0, c1, c2, c4, cf, hbx⟩ := HR2.out.cells
  have hlen2 : (t ++ 39 :: l).length = t.length + l.length + 1 := by simp; omega
  rw [hlen2] at hp2
  have hp12 : p2 = p + 1 := by omega
  have HD1' := HD1.out
  have HD2' := HD2.out
  rw [← hp12] at HD1' HD2'
  have hpl : p2 + t.length + l.length + 1 = T.length := by omega
  clear hw1 hd1 hd2 HD1 HD2 hp hp12
  have HD1 := Lib.hid HD1'
  have HD2 := Lib.hid HD2'
  clear HD1' HD2'
  have hsz := toB_size T
  have hp0 : (p2 : Int) ≤ ((toB T).size : Int) := by omega
  have hpx : List.take (T.length - p2) (List.drop p2 (toB T).data.toList) = t ++ 39 :: l := by
    rw [toB_list, HD1.out]
    exact List.take_of_length_le (by rw [hlen2]; omega)
  have hib := ib_hit39 t l h39
  clear hbx hdp2 hlen2
  go_quiet ((go_at_call 7; exact Calls.quiet_of_same (Tryz.strings_IndexByte _ _ _)))
  have hex : Lib.indexByte ((toB T).extract p2 T.length).data.toList (Int.toNat 39).toUInt8 = (t.length : Int) := by
    rw [text_from T p2, HD1.out]
    exact hib
  rw [hex]
  have HR3 := Lib.hid (HR2.out.drewN nq)
  have HQ3 := Lib.hid (HQ2.out.only ((Only.refl b w2).drewN nq) hb hy)
  have HF3 := Lib.hid (HF2.out.only ((Only.refl b w2).drewN nq) HQ2.out.le)
  clear hex hib hpx c0 c1 c2 c4 cf HO2
  generalize w2.drewN nq = w3 at *
  obtain ⟨p3, lf3, hp3, _, _, _, c0, c1, c2, c4, cf, hbx⟩ := HR3.out.cells
  have hlen3 : (t ++ 39 :: l).length = t.length + l.length + 1 := by simp; omega
  rw [hlen3] at hp3
  obtain rfl : p3 = p2 := by omega
  have hn0 : ¬ (t.length : Int) < 0 := by omega
  have hw3 : IntKind.i64.wrap ((p3 : Int) + (t.length : Int)) = (p3 : Int) + (t.length : Int) := IntWalk.i64_in _ (by omega)
  have hs1 : (p3 : Int) + (t.length : Int) ≤ ((toB T).size : Int) := by omega
  have hs2 : (p3 : Int) ≤ (p3 : Int) + (t.length : Int) := by omega
  have HA := Lib.hid (add_any B y v L 3 t w3.drew HQ3.out.drew hn)
  have HTx := Lib.hid (show (toB T).extract p3 (p3 + t.length) = toB t by
    rw [text_part, HD1.out]
    simp)
  clear hbx c2 c4 hlen3
  have hs3 : (p3 : Int) + (t.length : Int) ≤ (T.length : Int) := by omega
  have hs4 : (0 : Int) ≤ (p3 : Int) + (t.length : Int) := by omega
  have hs5 : ((p3 : Int) + (t.length : Int)).toNat = p3 + t.length := by omega
  have hs6 : p3 ≤ p3 + t.length := by omega
  go_upto_region 10 with fail
  go_still_tail 17, (by kernel_rfl)
  change wpList _ _ _ _ _ w3.drew
  go_wp2_with fail
  rw [HTx.out]
  refine HA.out.mono ?_
  rintro e w5 ⟨rfl, v', hb5, hr5⟩
  have HR5 := Lib.hid ((show Rd w3.drew b T (t ++ 39 :: l) from HR3.out.drewN 1).rest hr5 hb hy)
  have HB5 := Lib.hid hb5
  have HF5 := Lib.hid ((HF3.out.only ((Only.refl b w3).drewN 1) HQ3.out.le).rest hr5)
  obtain ⟨p5, lf5, hp5, _, _, _, d0, d1, d2, d4, df, hbx⟩ := HR5.out.cells
  have hlen5 : (t ++ 39 :: l).length = t.length + l.length + 1 := by simp; omega
  rw [hlen5] at hp5
  obtain rfl : p5 = p3 := by omega
  have HR6 := Lib.hid (HR5.out.store (q := p5 + t.length + 1) (l' := l) (by omega) HD2.out)
  have HO6 := Lib.hid ((Only.refl b w5).setCell (i := 1) (.int .i64 ((p5 + t.length + 1 : Nat) : Int)))
  have HB6 := Lib.hid (HB5.out.only HO6.out hb hy)
  have HF6 := Lib.hid (HF5.out.only HO6.out HB5.out.le)
  have HZ := Lib.hid (show PcG B b y T (39 :: (t ++ 39 :: l)) L w (catQ L ++ (t ++ s)) (.returned (.tuple #[])) (w5.setCell ⟨b, 1, none⟩ (.int .i64 ((p5 + t.length + 1 : Nat) : Int))) from ⟨rfl, v', _, l, s, HR6.out, HB6.out, HF6.out, HQR.out, by rw [catQ_app, catQ_one, List.append_assoc], by simp; omega, fun p hp => by
    rcases List.mem_append.1 hp with hp | hp
    · exact HKd.out p hp
    · rw [List.mem_singleton.1 hp]; exact .inr (.inr rfl), by simp⟩)
  rw [show ((p5 + t.length + 1 : Nat) : Int) = (p5 : Int) + ((t.length : Int) + 1) by omega] at HZ
  have hw6 : IntKind.i64.wrap ((t.length : Int) + 1) = (t.length : Int) + 1 := IntWalk.i64_in _ (by omega)
  have hw7 : IntKind.i64.wrap ((p5 : Int) + ((t.length : Int) + 1)) = (p5 : Int) + ((t.length : Int) + 1) := IntWalk.i64_in _ (by omega)
  clear hb5 hr5 hbx d0 d2 d4 HR6 HO6 HB6 HF6 HR5 HB5 HF5 c0 c1 cf
  go_wp2_with fail
  go_end0
  rw [← HQ.out]
  exact HZ.out
end Go.Proofs.YtonejkomggpbbabGreatDoor
