/- Arithmetic expressions: chain. (Printed by tools/gchain.py.) -/
import Derived.Test.YtiigclkebnmopaaGreatDoorArPre
namespace Go.Proofs.YtiigclkebnmopaaGreatDoor
open Go.RowKit Go.Shelf

/-- two operands in a row of their own: the next first operand -/
theorem SB.join {w w4 W : World} {b bx gx : Nat} {T l1 l2 : List UInt8} {v0 v1 v2 v3 u0 u1 u2 u3 : Value} {x y : Ex} (h : SB w b bx gx T l1 v0 v1 v2 v3 x w4) (hr : Rd W b T l2) (ho : Only b w4 W) (hy : ExV (Nw w4) W (.agg #[u0, u1, u2, u3]) y) (s : List UInt8) :
    SB w b bx gx T l2 (.string (toB s)) (.int .i64 0) (.string (toB [])) (.slice (some ⟨W.heap.size, 0, none⟩) 2 2) (Go.Proofs.YtiigclkebnmopaaGreatDoor.bx s [x, y]) ((set4 W gx (.string (toB s)) (.int .i64 0) (.string (toB [])) (.slice (some ⟨W.heap.size, 0, none⟩) 2 2)).alloc (.cells #[v0, v1, v2, v3, u0, u1, u2, u3] 25)) := by
  have ba := (Below.refl W.heap.size W).alloc (Nat.le_refl _) (.cells #[v0, v1, v2, v3, u0, u1, u2, u3] 25)
  have s1 := h.sx.only.size
  have s2 := ho.size
  have s3 := h.sx.lt
  have s4 := h.four.lt
  have h2 := h.step hr ho
  have h3 := h2.below ba
  have s5 := h2.four.lt
  have hlt := h.lt
  rw [← set4_alloc W _ gx _ _ _ _ s5]
  have O := Only.set4 (W.alloc (.cells #[v0, v1, v2, v3, u0, u1, u2, u3] 25)) gx (.string (toB s)) (.int .i64 0) (.string (toB [])) (.slice (some ⟨W.heap.size, 0, none⟩) 2 2)
  refine ⟨h3.sx.other O hlt, h3.four.set _ _ _ _, ?_, hlt⟩
  refine ExV.only (exv_row (exl_two h2.val (hy.mono (fun g hg _ => ?_)) _) ⟨by omega, by omega, by omega⟩ (by simp) (by simp) s [] _ rfl) O (fun hh => hh.2.2 rfl)
  have hgw : w4.heap.size ≤ g := hg
  exact ⟨by omega, by omega, by omega⟩

/-- a call in a region that draws its order has ended in a panic, and all is shown: an empty region is left -/
theorem region_ends {R : Prop} (w : World) (h : R) (_ : wpAny Tryz.prog .any #[] (fun _ _ _ => True) 0 #[] { tmps := #[], defers := [] } w) : R := h
theorem chain_less {t p q l1 l2 a : Nat} (h1 : p + l2 = t) (h2 : q + l1 = t) (h3 : a + 1 ≤ l1) (h4 : l2 ≤ a) : t - p < t - q := by omega
--BODY
set_option maxRecDepth 100000 in
set_option maxHeartbeats 6400000 in
theorem chain_a (f b gs off cs : Nat) (T l : List UInt8) (L : List (List UInt8)) (w : World) (h : Rd w b T l) (hL : TX w gs off L) (hgs : gs ≠ b) (hgl : gs < w.heap.size) (hne : [] ∉ L) (hlen : L.length ≤ 100)
    (hloop : ∀ f x l, parse (f + 1) (.exprL x) l = if sg l ∈ L then (parse f .assign (aft (sg l) l)).bind fun y l1 => parse f (.exprL (bx (sg l) [x, y])) l1 else .ok x (gap l))
    (hop : ∀ f', f' ≤ f → ∀ (l' : List UInt8) (W : World), Only b w W → Rd W b T l' → parse f' .assign l' ≠ .none → Calls Tryz.prog 54 #[.pointer (some ⟨b, 0, none⟩)] W (PG b T (parse f' .assign l') W))
    (hn : (parse f .assign l).bind (fun x l1 => parse f (.exprL x) l1) ≠ .none) :
    Calls Tryz.prog 53 #[.pointer (some ⟨b, 0, none⟩), .func (.func 54) #[.pointer (some ⟨b, 0, none⟩)] #[], .slice (some ⟨gs, off, none⟩) L.length cs] w (PG b T ((parse f .assign l).bind (fun x l1 => parse f (.exprL x) l1)) w) := by
  have HX0 := Lib.hid (SX.start h)
  have HTX := Lib.hid hL
  have HLp := Lib.hid hloop
  have HOp := Lib.hid hop
  have HNe := Lib.hid hne
  have HNn := Lib.hid hn
  have hlt := h.lt
  obtain ⟨o0, ho0⟩ : ∃ o0, parse f .assign l = o0 := ⟨_, rfl⟩
  have HOp0 := Lib.hid (hop f (Nat.le_refl _) l)
  rw [ho0] at HOp0 HNn
  obtain ⟨o, ho⟩ : ∃ o, o0.bind (fun x l1 => parse f (.exprL x) l1) = o := ⟨_, rfl⟩
  have HO := Lib.hid ho
  obtain ⟨Q, hQ⟩ : ∃ Q, PG b T o w = Q := ⟨_, rfl⟩
  rw [ho0, ho, hQ]
  rw [ho] at HNn
  have HQ := Lib.hid hQ
  clear hQ h hn ho hL hloop hop hne ho0
  go_enter Tryz.func53, Tryz.ntmps53
  go_wp2_with fail
  generalize w.alloc (.cells #[.string ⟨#[]⟩, .int .i64 0, .string ⟨#[]⟩, .slice none 0 0] 25) = w1 at *
  refine (HOp0.out _ HX0.out.only HX0.out.rd (fun e => HNn.out (by rw [← HO.out, e]; rfl))).mono ?_
  intro e w2 hp
  rcases out_cases o0 with ⟨x, l1, rfl⟩ | hno
  · obtain ⟨v, rfl, hx, hr2, ho2⟩ := hp
    obtain ⟨n, A, k, c, nm, rfl, hnm⟩ := hx.form
    have HB := Lib.hid (HX0.out.box hr2 ho2 hx)
    have HTX2 : Hid (TX (w2.alloc (.cells #[.string (toB x.op), .int .i64 (n : Int), .string (toB nm), .slice A k c] 25)) gs off L) := Lib.hid (fun j hj => (World.cell?_of_block (a := ⟨gs, off + j, none⟩) (HB.out.sx.only.block gs hgl hgs)).trans (HTX.out j hj))
    have HK := Lib.hid (show parse f (.exprL x) l1 = o from HO.out)
    clear hx hr2 ho2 hnm HOp0
    obtain ⟨bx, hbx⟩ : ∃ bx, w.heap.size = bx := ⟨_, rfl⟩
    rw [hbx] at HB
    simp only [hbx]
    have HBX := Lib.hid hbx
    clear hbx HX0
    go_wp2_with fail
    generalize w2.alloc (.cells #[.string (toB x.op), .int .i64 (n : Int), .string (toB nm), .slice A k c] 25) = w3 at *
    generalize w2.heap.size = gx at *
    have HTf := Lib.hid (fun (W : World) (hW : Only b w W) => (show TX W gs off L from fun j hj => (World.cell?_of_block (a := ⟨gs, off + j, none⟩) (hW.block gs hgl hgs)).trans (HTX.out j hj)))
    clear HTX HTX2
    go_loopw [] (fun wr => ∃ (f' : Nat) (x : Ex) (l' : List UInt8) (n : Int) (A : Option Addr) (k c : Nat) (nm : List UInt8), f' ≤ f ∧ Hid (parse f' (.exprL x) l' = o) ∧ Hid (SB w b bx gx T l' (.string (toB x.op)) (.int .i64 (n : Int)) (.string (toB nm)) (.slice A k c) x wr)) (fun wr => T.length - posOf wr b)
    case atStart => exact ⟨f, x, l1, n, A, k, c, nm, Nat.le_refl _, HK, HB⟩
    case round =>
      clear HB HK
      obtain ⟨f', x, l1, n, A, k, c, nm, hf', HK, HB⟩ := hrel
      have hgl2 : gs < wr.heap.size := Nat.lt_of_lt_of_le hgl HB.out.sx.only.size
      have HIS := Lib.hid (isSign_any b gs off cs T l1 L wr HB.out.sx.rd (HTf.out wr HB.out.sx.only) hgs hgl2 HNe.out hlen)
      go_wp2_with fail
      refine HIS.out.mono ?_
      rintro e w4 ⟨hcase, ho4⟩
      clear HIS
      cases f' with
      | zero => exact absurd HK.out.symm (fun h => HNn.out h)
      | succ f' =>
        have HLq := Lib.hid ((HLp.out f' x l1).symm.trans HK.out)
        rcases hcase with ⟨hin, rfl, hr4⟩ | ⟨hno, rfl, hr4⟩
        · have HB4 := Lib.hid (HB.out.step hr4 ho4)
          have HLr := Lib.hid ((if_pos hin).symm.trans HLq.out)
          have HP1 := Lib.hid HB.out.sx.rd.pos
          have hlen4 := aft_len (sg_mem hin HNe.out)
          obtain ⟨o1, ho1⟩ : ∃ o1, parse f' .assign (aft (sg l1) l1) = o1 := ⟨_, rfl⟩
          have HO1 := Lib.hid ho1
          have HN1 := Lib.hid (show o1 ≠ .none from fun e => HNn.out (by rw [← HLr.out, ho1, e]; rfl))
          have HOp1 := Lib.hid (HOp.out f' (by omega) (aft (sg l1) l1) w4.drew ((HB4.out.below ((Below.refl _ w4).drew)).sx.only) ((HB4.out.below ((Below.refl _ w4).drew)).sx.rd) (by rw [ho1]; exact HN1.out))
          rw [ho1] at HOp1 HLr
          obtain ⟨sq, hsq⟩ : ∃ sq, sg l1 = sq := ⟨_, rfl⟩
          have HSq := Lib.hid hsq
          rw [hsq] at HLr HO1 hlen4
          simp only [hsq]
          clear hr4 ho4 ho1 hsq hin HLq HK HB
          obtain ⟨c0, c1, c2, c3, cf⟩ := HB4.out.four.cells
          rcases out_cases o1 with ⟨y, l2, rfl⟩ | hno
          · go_upto_region 5 with fail
            go_region_law (first
              | (go_simp; go_at_call 54; refine HOp1.out.mono ?_; rintro e w5 ⟨v, rfl, hy, hr5, ho5⟩; obtain ⟨n5, A5, k5, c5, nm5, rfl, hnm5⟩ := hy.form; have HJ := Lib.hid ((HB4.out.below ((Below.refl _ w4).drew)).join hr5 ho5 hy sq); have HB5 := Lib.hid ((HB4.out.below ((Below.refl _ w4).drew)).step hr5 ho5); obtain ⟨d0, d1, d2, d3, df⟩ := HB5.out.four.cells; have hlt5 := HB5.out.four.lt; clear hy hr5 ho5 hnm5))
            all_goals
              go_wp2_with fail
              refine ⟨⟨f', Go.Proofs.YtiigclkebnmopaaGreatDoor.bx sq [x, y], l2, 0, some ⟨w5.heap.size, 0, none⟩, 2, 2, [], by omega, HLr, HJ⟩, ?_⟩
              exact chain_less HJ.out.sx.rd.pos HP1.out hlen4 (less_of HO1.out).1
          · go_upto_region 5 with fail
            go_region_with (first
              | (go_at_call 54; refine HOp1.out.mono ?_; intro e w5 hp; obtain ⟨p, cc, rfl, ho5, HF⟩ := PG.fail hno hp; have HO5 := Lib.hid ((HB4.out.below ((Below.refl _ w4).drew)).sx.only.trans ho5); have HFF := Lib.hid HF; clear hp ho5 HF; unfold pan; go_wp2_with fail; refine region_ends w5 ?_ ?_; (refine ⟨rfl, ?_⟩; rw [← HQ.out, ← HLr.out]; exact HFF.out _ _ HO5.out)))
            all_goals trivial
        · have HB4 := Lib.hid (HB.out.step hr4 ho4)
          have HLr := Lib.hid ((if_neg hno).symm.trans HLq.out)
          clear hr4 ho4 hno HLq HK HB
          obtain ⟨c0, c1, c2, c3, cf⟩ := HB4.out.four.cells
          obtain ⟨d0, d1, d2, d3, df⟩ := HB4.out.sx.res.cells
          have hlt4 := HB4.out.sx.lt
          have HE := Lib.hid (HB4.out.gives HLr.out.symm)
          go_wp2_with fail
          obtain ⟨q0, q1, q2, q3, qf⟩ := HE.out.2.cells
          unfold set4 at q0 q1 q2 q3
          refine bodyPost_ret (v := .agg #[.string (toB x.op), .int .i64 (n : Int), .string (toB nm), .slice A k c]) (by simp [results, Tryz.results53, go_sem, q0, q1, q2, q3]) rfl ?_
          rw [← HQ.out]
          exact HE.out.1
  · obtain ⟨p, c, rfl, ho2, HF⟩ := PG.fail hno hp
    have HO2 := Lib.hid (HX0.out.only.trans ho2)
    have HFF := Lib.hid HF
    clear hp hno ho2 HF
    unfold pan
    go_wp2_with fail
    rw [← HQ.out, ← HO.out]
    exact ⟨rfl, HFF.out _ _ HO2.out⟩

end Go.Proofs.YtiigclkebnmopaaGreatDoor

namespace Go.Proofs.YtiigclkebnmopaaGreatDoor
open Go.RowKit Go.Shelf

set_option maxRecDepth 100000 in
set_option maxHeartbeats 6400000 in
theorem chain_b (f b gs off cs : Nat) (b2 b3 lv : Nat) (T l : List UInt8) (L : List (List UInt8)) (w : World) (h : Rd w b T l) (hL : TX w gs off L) (hgs : gs ≠ b) (hgl : gs < w.heap.size) (hne : [] ∉ L) (hlen : L.length ≤ 100)
    (hloop : ∀ f x l, parse (f + 1) (.levL lv x) l = if sg l ∈ L then (parse f (.lev (lv + 1)) (aft (sg l) l)).bind fun y l1 => parse f (.levL lv (bx (sg l) [x, y])) l1 else .ok x (gap l))
    (hop : ∀ f', f' ≤ f → ∀ (l' : List UInt8) (W : World), Only b w W → Rd W b T l' → parse f' (.lev (lv + 1)) l' ≠ .none → Calls Tryz.prog 197 #[.pointer (some ⟨b2, 0, none⟩), .pointer (some ⟨b3, 0, none⟩)] W (PG b T (parse f' (.lev (lv + 1)) l') W))
    (hn : (parse f (.lev (lv + 1)) l).bind (fun x l1 => parse f (.levL lv x) l1) ≠ .none) :
    Calls Tryz.prog 53 #[.pointer (some ⟨b, 0, none⟩), .func (.func 197) #[] #[.pointer (some ⟨b2, 0, none⟩), .pointer (some ⟨b3, 0, none⟩)], .slice (some ⟨gs, off, none⟩) L.length cs] w (PG b T ((parse f (.lev (lv + 1)) l).bind (fun x l1 => parse f (.levL lv x) l1)) w) := by
  have HX0 := Lib.hid (SX.start h)
  have HTX := Lib.hid hL
  have HLp := Lib.hid hloop
  have HOp := Lib.hid hop
  have HNe := Lib.hid hne
  have HNn := Lib.hid hn
  have hlt := h.lt
  obtain ⟨o0, ho0⟩ : ∃ o0, parse f (.lev (lv + 1)) l = o0 := ⟨_, rfl⟩
  have HOp0 := Lib.hid (hop f (Nat.le_refl _) l)
  rw [ho0] at HOp0 HNn
  obtain ⟨o, ho⟩ : ∃ o, o0.bind (fun x l1 => parse f (.levL lv x) l1) = o := ⟨_, rfl⟩
  have HO := Lib.hid ho
  obtain ⟨Q, hQ⟩ : ∃ Q, PG b T o w = Q := ⟨_, rfl⟩
  rw [ho0, ho, hQ]
  rw [ho] at HNn
  have HQ := Lib.hid hQ
  clear hQ h hn ho hL hloop hop hne ho0
  go_enter Tryz.func53, Tryz.ntmps53
  go_wp2_with fail
  generalize w.alloc (.cells #[.string ⟨#[]⟩, .int .i64 0, .string ⟨#[]⟩, .slice none 0 0] 25) = w1 at *
  refine (HOp0.out _ HX0.out.only HX0.out.rd (fun e => HNn.out (by rw [← HO.out, e]; rfl))).mono ?_
  intro e w2 hp
  rcases out_cases o0 with ⟨x, l1, rfl⟩ | hno
  · obtain ⟨v, rfl, hx, hr2, ho2⟩ := hp
    obtain ⟨n, A, k, c, nm, rfl, hnm⟩ := hx.form
    have HB := Lib.hid (HX0.out.box hr2 ho2 hx)
    have HTX2 : Hid (TX (w2.alloc (.cells #[.string (toB x.op), .int .i64 (n : Int), .string (toB nm), .slice A k c] 25)) gs off L) := Lib.hid (fun j hj => (World.cell?_of_block (a := ⟨gs, off + j, none⟩) (HB.out.sx.only.block gs hgl hgs)).trans (HTX.out j hj))
    have HK := Lib.hid (show parse f (.levL lv x) l1 = o from HO.out)
    clear hx hr2 ho2 hnm HOp0
    obtain ⟨bx, hbx⟩ : ∃ bx, w.heap.size = bx := ⟨_, rfl⟩
    rw [hbx] at HB
    simp only [hbx]
    have HBX := Lib.hid hbx
    clear hbx HX0
    go_wp2_with fail
    generalize w2.alloc (.cells #[.string (toB x.op), .int .i64 (n : Int), .string (toB nm), .slice A k c] 25) = w3 at *
    generalize w2.heap.size = gx at *
    have HTf := Lib.hid (fun (W : World) (hW : Only b w W) => (show TX W gs off L from fun j hj => (World.cell?_of_block (a := ⟨gs, off + j, none⟩) (hW.block gs hgl hgs)).trans (HTX.out j hj)))
    clear HTX HTX2
    go_loopw [] (fun wr => ∃ (f' : Nat) (x : Ex) (l' : List UInt8) (n : Int) (A : Option Addr) (k c : Nat) (nm : List UInt8), f' ≤ f ∧ Hid (parse f' (.levL lv x) l' = o) ∧ Hid (SB w b bx gx T l' (.string (toB x.op)) (.int .i64 (n : Int)) (.string (toB nm)) (.slice A k c) x wr)) (fun wr => T.length - posOf wr b)
    case atStart => exact ⟨f, x, l1, n, A, k, c, nm, Nat.le_refl _, HK, HB⟩
    case round =>
      clear HB HK
      obtain ⟨f', x, l1, n, A, k, c, nm, hf', HK, HB⟩ := hrel
      have hgl2 : gs < wr.heap.size := Nat.lt_of_lt_of_le hgl HB.out.sx.only.size
      have HIS := Lib.hid (isSign_any b gs off cs T l1 L wr HB.out.sx.rd (HTf.out wr HB.out.sx.only) hgs hgl2 HNe.out hlen)
      go_wp2_with fail
      refine HIS.out.mono ?_
      rintro e w4 ⟨hcase, ho4⟩
      clear HIS
      cases f' with
      | zero => exact absurd HK.out.symm (fun h => HNn.out h)
      | succ f' =>
        have HLq := Lib.hid ((HLp.out f' x l1).symm.trans HK.out)
        rcases hcase with ⟨hin, rfl, hr4⟩ | ⟨hno, rfl, hr4⟩
        · have HB4 := Lib.hid (HB.out.step hr4 ho4)
          have HLr := Lib.hid ((if_pos hin).symm.trans HLq.out)
          have HP1 := Lib.hid HB.out.sx.rd.pos
          have hlen4 := aft_len (sg_mem hin HNe.out)
          obtain ⟨o1, ho1⟩ : ∃ o1, parse f' (.lev (lv + 1)) (aft (sg l1) l1) = o1 := ⟨_, rfl⟩
          have HO1 := Lib.hid ho1
          have HN1 := Lib.hid (show o1 ≠ .none from fun e => HNn.out (by rw [← HLr.out, ho1, e]; rfl))
          have HOp1 := Lib.hid (HOp.out f' (by omega) (aft (sg l1) l1) w4.drew ((HB4.out.below ((Below.refl _ w4).drew)).sx.only) ((HB4.out.below ((Below.refl _ w4).drew)).sx.rd) (by rw [ho1]; exact HN1.out))
          rw [ho1] at HOp1 HLr
          obtain ⟨sq, hsq⟩ : ∃ sq, sg l1 = sq := ⟨_, rfl⟩
          have HSq := Lib.hid hsq
          rw [hsq] at HLr HO1 hlen4
          simp only [hsq]
          clear hr4 ho4 ho1 hsq hin HLq HK HB
          obtain ⟨c0, c1, c2, c3, cf⟩ := HB4.out.four.cells
          rcases out_cases o1 with ⟨y, l2, rfl⟩ | hno
          · go_upto_region 5 with fail
            go_region_law (first
              | (go_simp; go_at_call 197; refine HOp1.out.mono ?_; rintro e w5 ⟨v, rfl, hy, hr5, ho5⟩; obtain ⟨n5, A5, k5, c5, nm5, rfl, hnm5⟩ := hy.form; have HJ := Lib.hid ((HB4.out.below ((Below.refl _ w4).drew)).join hr5 ho5 hy sq); have HB5 := Lib.hid ((HB4.out.below ((Below.refl _ w4).drew)).step hr5 ho5); obtain ⟨d0, d1, d2, d3, df⟩ := HB5.out.four.cells; have hlt5 := HB5.out.four.lt; clear hy hr5 ho5 hnm5))
            all_goals
              go_wp2_with fail
              refine ⟨⟨f', Go.Proofs.YtiigclkebnmopaaGreatDoor.bx sq [x, y], l2, 0, some ⟨w5.heap.size, 0, none⟩, 2, 2, [], by omega, HLr, HJ⟩, ?_⟩
              exact chain_less HJ.out.sx.rd.pos HP1.out hlen4 (less_of HO1.out).1
          · go_upto_region 5 with fail
            go_region_with (first
              | (go_at_call 197; refine HOp1.out.mono ?_; intro e w5 hp; obtain ⟨p, cc, rfl, ho5, HF⟩ := PG.fail hno hp; have HO5 := Lib.hid ((HB4.out.below ((Below.refl _ w4).drew)).sx.only.trans ho5); have HFF := Lib.hid HF; clear hp ho5 HF; unfold pan; go_wp2_with fail; refine region_ends w5 ?_ ?_; (refine ⟨rfl, ?_⟩; rw [← HQ.out, ← HLr.out]; exact HFF.out _ _ HO5.out)))
            all_goals trivial
        · have HB4 := Lib.hid (HB.out.step hr4 ho4)
          have HLr := Lib.hid ((if_neg hno).symm.trans HLq.out)
          clear hr4 ho4 hno HLq HK HB
          obtain ⟨c0, c1, c2, c3, cf⟩ := HB4.out.four.cells
          obtain ⟨d0, d1, d2, d3, df⟩ := HB4.out.sx.res.cells
          have hlt4 := HB4.out.sx.lt
          have HE := Lib.hid (HB4.out.gives HLr.out.symm)
          go_wp2_with fail
          obtain ⟨q0, q1, q2, q3, qf⟩ := HE.out.2.cells
          unfold set4 at q0 q1 q2 q3
          refine bodyPost_ret (v := .agg #[.string (toB x.op), .int .i64 (n : Int), .string (toB nm), .slice A k c]) (by simp [results, Tryz.results53, go_sem, q0, q1, q2, q3]) rfl ?_
          rw [← HQ.out]
          exact HE.out.1
  · obtain ⟨p, c, rfl, ho2, HF⟩ := PG.fail hno hp
    have HO2 := Lib.hid (HX0.out.only.trans ho2)
    have HFF := Lib.hid HF
    clear hp hno ho2 HF
    unfold pan
    go_wp2_with fail
    rw [← HQ.out, ← HO.out]
    exact ⟨rfl, HFF.out _ _ HO2.out⟩

end Go.Proofs.YtiigclkebnmopaaGreatDoor

namespace Go.Proofs.YtiigclkebnmopaaGreatDoor
open Go.RowKit Go.Shelf

def levV (h j : Nat) : Value := .slice (some ⟨h + 1 + j, 0, none⟩) (levels j).length (levels j).length
/-- the table of operators -/
def LevGives (w : World) (e : Ending) (w' : World) : Prop :=
  e = .returned (.agg #[levV w.heap.size 0, levV w.heap.size 1, levV w.heap.size 2, levV w.heap.size 3, levV w.heap.size 4, levV w.heap.size 5, levV w.heap.size 6, levV w.heap.size 7, levV w.heap.size 8, levV w.heap.size 9]) ∧ Below w.heap.size w w' ∧ w.heap.size + 11 ≤ w'.heap.size ∧ ∀ j < 10, TX w' (w.heap.size + 1 + j) 0 (levels j)

theorem TX.keep {w w' : World} {g off : Nat} {L : List (List UInt8)} (h : TX w g off L) (hb : Below w.heap.size w w') (hg : g < w.heap.size) : TX w' g off L :=
  fun j hj => (World.cell?_of_block (a := ⟨g, off + j, none⟩) (hb.block g hg)).trans (h j hj)
theorem TX.new (w : World) (cs : Array Value) (t : TypeId) (L : List (List UInt8)) (hc : cs = (L.map fun s => Value.string (toB s)).toArray) : TX (w.alloc (.cells cs t)) w.heap.size 0 L := fun j hj => by
  rw [Nat.zero_add, box_cell, hc]
  simp [hj]
def LS (w : World) (j : Nat) (W : World) : Prop := W.heap.size = w.heap.size + 1 + j ∧ Below w.heap.size w W ∧ ∀ i < j, TX W (w.heap.size + 1 + i) 0 (levels i)
theorem lev_step {w W : World} {j : Nat} (h : LS w j W) (cs : Array Value) (t : TypeId) (hc : cs = ((levels j).map fun s => Value.string (toB s)).toArray) : LS w (j + 1) (W.alloc (.cells cs t)) := by
  obtain ⟨hs, hb, ht⟩ := h
  have ba := (Below.refl W.heap.size W).alloc (Nat.le_refl _) (.cells cs t)
  refine ⟨by simp [hs]; omega, hb.alloc (by omega) _, fun i hi => ?_⟩
  by_cases hij : i = j
  · subst hij
    rw [← hs]
    exact TX.new W cs t _ hc
  · exact (ht i (by omega)).keep ba (by omega)
set_option maxRecDepth 100000 in
set_option maxHeartbeats 3200000 in
theorem binary_any (w : World) : Calls Tryz.prog 195 #[] w (LevGives w) := by
  obtain ⟨Q, hQ⟩ : ∃ Q, LevGives w = Q := ⟨_, rfl⟩
  rw [hQ]
  have HQ := Lib.hid hQ
  clear hQ
  go_enter Tryz.func195, Tryz.ntmps195
  go_wp2_with fail
  refine bodyPost_ret (v := .agg #[levV w.heap.size 0, levV w.heap.size 1, levV w.heap.size 2, levV w.heap.size 3, levV w.heap.size 4, levV w.heap.size 5, levV w.heap.size 6, levV w.heap.size 7, levV w.heap.size 8, levV w.heap.size 9]) (by simp [results, Tryz.results195, go_sem, levV, levels]) rfl ?_
  rw [← HQ.out]
  have hf : ∀ W, LS w 10 W → LevGives w (.returned (.agg #[levV w.heap.size 0, levV w.heap.size 1, levV w.heap.size 2, levV w.heap.size 3, levV w.heap.size 4, levV w.heap.size 5, levV w.heap.size 6, levV w.heap.size 7, levV w.heap.size 8, levV w.heap.size 9])) W := fun W h => ⟨rfl, h.2.1, by have := h.1; omega, h.2.2⟩
  apply hf
  iterate 10 refine lev_step ?_ _ _ (by simp [levels, toB])
  exact ⟨by simp, (Below.refl _ w).alloc (Nat.le_refl _) _, fun i hi => absurd hi (Nat.not_lt_zero i)⟩

/-- the contract of the levels -/
def CtrL (lv f b : Nat) (T : List UInt8) : Prop := ∀ (l : List UInt8) (W : World), Rd W b T l → MX b W → parse f (.lev lv) l ≠ .none → Calls Tryz.prog 156 #[.pointer (some ⟨b, 0, none⟩), .int .i64 (lv : Int)] W (PG b T (parse f (.lev lv) l) W)

set_option maxRecDepth 100000 in
set_option maxHeartbeats 3200000 in
theorem levelc_any (f b b2 b3 lv : Nat) (T : List UInt8) (hlv : lv < 10) (hL : CtrL (lv + 1) f b T) (l : List UInt8) (w : World) (h : Rd w b T l) (hm : MX b w) (h2 : w.cell? ⟨b2, 0, none⟩ = some (.pointer (some ⟨b, 0, none⟩))) (h3 : w.cell? ⟨b3, 0, none⟩ = some (.int .i64 (lv : Int))) (hb2 : b2 < w.heap.size) (hb3 : b3 < w.heap.size) (hn : parse f (.lev (lv + 1)) l ≠ .none) :
    Calls Tryz.prog 197 #[.pointer (some ⟨b2, 0, none⟩), .pointer (some ⟨b3, 0, none⟩)] w (PG b T (parse f (.lev (lv + 1)) l) w) := by
  have HX0 := Lib.hid (SX.start h)
  have ba := (Below.refl w.heap.size w).alloc (Nat.le_refl _) (.cells #[.string ⟨#[]⟩, .int .i64 0, .string ⟨#[]⟩, .slice none 0 0] 25)
  have k2 := (World.cell?_of_block (a := ⟨b2, 0, none⟩) (ba.block _ hb2)).trans h2
  have k3 := (World.cell?_of_block (a := ⟨b3, 0, none⟩) (ba.block _ hb3)).trans h3
  obtain ⟨o, ho⟩ : ∃ o, parse f (.lev (lv + 1)) l = o := ⟨_, rfl⟩
  have HL := Lib.hid (hL l _ HX0.out.rd (hm.only HX0.out.only) hn)
  rw [ho, show ((lv + 1 : Nat) : Int) = (lv : Int) + 1 from by simp] at HL
  have e1 : IntKind.i64.wrap ((lv : Int) + 1) = (lv : Int) + 1 := IntWalk.i64_in _ (by omega)
  obtain ⟨Q, hQ⟩ : ∃ Q, PG b T o w = Q := ⟨_, rfl⟩
  rw [ho, hQ]
  have HQ := Lib.hid hQ
  clear hQ h hn hL ho h2 h3 ba
  go_enter Tryz.func197, Tryz.ntmps197
  go_wp2_with fail
  generalize w.alloc (.cells #[.string ⟨#[]⟩, .int .i64 0, .string ⟨#[]⟩, .slice none 0 0] 25) = w1 at *
  obtain ⟨bx, hbx⟩ : ∃ bx, w.heap.size = bx := ⟨_, rfl⟩
  rw [hbx] at HX0
  simp only [hbx]
  clear hbx
  refine HL.out.mono ?_
  intro e w3 hp
  clear HL
  rcases out_cases o with ⟨x, l1, rfl⟩ | hno
  · obtain ⟨v, rfl, hx, hr3, ho3⟩ := hp
    obtain ⟨n, A, k, c, nm, rfl, hnm⟩ := hx.form
    have HE := Lib.hid (HX0.out.givesV hr3 ho3 hx rfl)
    have HX3 := Lib.hid (HX0.out.step hr3 ho3)
    clear hx hr3 ho3 hnm
    obtain ⟨d0, d1, d2, d3, df⟩ := HX3.out.res.cells
    go_wp2_with fail
    obtain ⟨q0, q1, q2, q3, qf⟩ := HE.out.2.cells
    unfold set4 at q0 q1 q2 q3
    refine bodyPost_ret (v := .agg #[.string (toB x.op), .int .i64 (n : Int), .string (toB nm), .slice A k c]) (by simp [results, Tryz.results197, go_sem, q0, q1, q2, q3]) rfl ?_
    rw [← HQ.out]
    exact HE.out.1
  · obtain ⟨p, c, rfl, ho3, HF⟩ := PG.fail hno hp
    have HO3 := Lib.hid (HX0.out.only.trans ho3)
    have HFF := Lib.hid HF
    clear hp hno ho3 HF
    unfold pan
    go_wp2_with fail
    rw [← HQ.out]
    have h0 := HFF.out Out.ok _ HO3.out
    rw [bind_ok] at h0
    exact ⟨rfl, h0⟩

end Go.Proofs.YtiigclkebnmopaaGreatDoor
