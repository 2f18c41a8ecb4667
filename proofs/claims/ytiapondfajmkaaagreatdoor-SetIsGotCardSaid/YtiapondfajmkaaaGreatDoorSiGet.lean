/- SetIsGot: Get. -/
import Derived.Test.YtiapondfajmkaaaGreatDoorSvW
namespace Go.Proofs.YtiapondfajmkaaaGreatDoor
open Go.RowKit

set_option maxRecDepth 100000 in
set_option maxHeartbeats 3200000 in
theorem Get_any (S : ShV) (p : ShP) (t : ByteArray) (w : World) (hm : ShM w S p) (hs : Small S) (hdr : S.dr = ⟨#[47]⟩) (hok : okS S) :
    Calls Tryz.prog 6 #[.agg (cellsS S p), .string t] w (GetP S.vs t w) := by
  obtain ⟨⟨arA, arn, arc⟩, ⟨vA, vn, vc⟩⟩ := p
  obtain rfl := SL.len hm.ar
  obtain rfl := (VL.at hm.vs).1
  have HLS : Hid ((getD S.vs t).ls.length * 16 ≤ 140737488355328) := Lib.hid (by
    cases hh : hasV S.vs t
    · rw [getD_no hh]; exact Nat.zero_le _
    · obtain ⟨hl, hge, _⟩ := getD_yes hh
      rw [hge]
      have := hs.ls _ (List.getElem_mem hl)
      omega)
  obtain ⟨Q, hQ⟩ : ∃ Q, GetP S.vs t w = Q := ⟨_, rfl⟩
  rw [hQ]
  have HQ := Lib.hid (fun e w' (h : GetP S.vs t w e w') => (show Q e w' from hQ ▸ h))
  obtain ⟨bx, hbx⟩ : ∃ bx, bx = w.heap.size := ⟨_, rfl⟩
  obtain ⟨W0, hW0⟩ : ∃ W0, W0 = (w.alloc (.cells #[.string S.nm, .slice arA S.ar.length arc, .slice vA S.vs.length vc, .slice none 0 0, .slice none 0 0, .int .i64 S.op, .int .i64 S.st, .int .i64 S.msk, .string S.dr] 28)).alloc (.cells #[.string ⟨#[]⟩, .string ⟨#[]⟩, .bool false, .slice none 0 0, .bool false, .bool false] 32) := ⟨_, rfl⟩
  have HX0 : Hid (Blk W0 bx 28 #[.string S.nm, .slice arA S.ar.length arc, .slice vA S.vs.length vc, .slice none 0 0, .slice none 0 0, .int .i64 S.op, .int .i64 S.st, .int .i64 S.msk, .string S.dr]) := Lib.hid (by rw [hW0]; exact (Blk.new w _ _ hbx.symm).alloc _)
  have HY0 : Hid (Blk W0 (bx + 1) 32 #[.string ⟨#[]⟩, .string ⟨#[]⟩, .bool false, .slice none 0 0, .bool false, .bool false]) := Lib.hid (by rw [hW0]; exact Blk.new _ _ _ (by rw [hbx]; simp))
  have HB0 : Hid (Below w.heap.size w W0) := Lib.hid (by rw [hW0]; exact ((Below.refl _ w).alloc (Nat.le_refl _) _).alloc (by simp) _)
  have HCK : Hid (Calls Tryz.prog 10 #[.agg #[.string S.nm, .slice arA S.ar.length arc, .slice vA S.vs.length vc, .slice none 0 0, .slice none 0 0, .int .i64 S.op, .int .i64 S.st, .int .i64 S.msk, .string S.dr]] W0 (CheckP S W0)) := Lib.hid (check_any S ⟨(arA, S.ar.length, arc), (vA, S.vs.length, vc)⟩ W0 (hm.keep HB0.out) hs hdr)
  have HGE := Lib.hid (fun W hc hb (h : Below w.heap.size w W) => get_any S.vs t vA S.vs.length vc bx W hc hb (hm.keep h).vs hok.rises hs.vs)
  have HBW : Hid (w.heap.size ≤ bx) := Lib.hid (by rw [hbx]; exact Nat.le_refl _)
  have HBXE := Lib.hid hbx
  have HWE := Lib.hid hW0
  have HOK := Lib.hid hok
  clear hQ hm hs hdr hok hbx hW0
  show Calls _ _ #[.agg #[.string S.nm, .slice arA S.ar.length arc, .slice vA S.vs.length vc, .slice none 0 0, .slice none 0 0, .int .i64 S.op, .int .i64 S.st, .int .i64 S.msk, .string S.dr], .string t] w Q
  go_enter Tryz.func6, Tryz.ntmps6
  go_upto_region 1 with fail
  rw [← HBXE.out, ← HWE.out]
  obtain ⟨x0, x1, x2, x3, x4, x5, x6, x7, x8, xf⟩ := HX0.out.nine
  go_upto_region 3 with (go_at_call 10; refine HCK.out.mono ?_; rintro e w1 ⟨c, rfl, hc, hb1⟩; obtain rfl : c = 0 := hc.2 HOK.out; clear hc)
  have HX1 := Lib.hid (HX0.out.keep hb1)
  have HY1 := Lib.hid (HY0.out.keep hb1)
  have HB1 := Lib.hid (HB0.out.trans (hb1.mono HB0.out.size))
  have HG1 := Lib.hid (HGE.out w1 (HX1.out.cell.1 2) HX1.out.lt HB1.out)
  clear hb1 HX0 HY0 HB0 HCK HGE x0 x1 x2 x3 x4 x5 x6 x7 x8 xf
  unfold GetP at HG1
  have HQ2 := Lib.hid (fun w' (s : SV) (h1 : SL w' (sv s) (getD S.vs t).ls) (h2 : Below w.heap.size w w') => HQ.out (.returned (.tuple #[aggV (getD S.vs t, s), .bool (hasV S.vs t)])) w' ⟨s, rfl, h1, h2⟩)
  clear HQ
  generalize getD S.vs t = x at *
  generalize hasV S.vs t = f at *
  obtain ⟨xn, xv, xi, xl, xe, xf⟩ := x
  go_upto_region 4 with (go_at_call 18; refine HG1.out.mono ?_; rintro e w2 ⟨⟨sA, sn, sc⟩, rfl, hs2, hb2⟩; unfold aggV sv)
  have HX2 := Lib.hid (HX1.out.keep hb2)
  have HY2 := Lib.hid (HY1.out.keep hb2)
  have HB2 := Lib.hid (HB1.out.trans (hb2.mono HB1.out.size))
  obtain ⟨y, hy⟩ : ∃ y, y = w2.heap.size := ⟨_, rfl⟩
  obtain ⟨W3, hW3⟩ : ∃ W3, W3 = w2.alloc (.cells #[.string xn, .string xv, .bool xi, .slice sA sn sc, .bool xe, .bool xf] 32) := ⟨_, rfl⟩
  have HY3 : Hid (Blk W3 (bx + 1) 32 #[.string ⟨#[]⟩, .string ⟨#[]⟩, .bool false, .slice none 0 0, .bool false, .bool false]) := Lib.hid (by rw [hW3]; exact HY2.out.alloc _)
  have HZ3 : Hid (Blk W3 y 32 #[.string xn, .string xv, .bool xi, .slice sA sn sc, .bool xe, .bool xf]) := Lib.hid (by rw [hW3]; exact Blk.new w2 _ _ hy.symm)
  have HB3 : Hid (Below w.heap.size w W3) := Lib.hid (by rw [hW3]; exact HB2.out.alloc HB2.out.size _)
  have HYW : Hid (w.heap.size ≤ y ∧ bx + 1 ≠ y) := Lib.hid ⟨by rw [hy]; exact HB2.out.size, by have := HY2.out.lt; omega⟩
  have HC3 := Lib.hid (clone_any xl (.slice sA sn sc) W3 (by rw [hW3]; exact hs2.keep ((Below.refl _ w2).alloc (Nat.le_refl _) _)) HLS.out)
  rw [← hy, ← hW3]
  clear hb2 hs2 hy hW3 HX1 HY1 HB1 HG1 HX2 HY2 HB2
  have z3 : W3.cell? ⟨y, 3, none⟩ = some (.slice sA sn sc) := HZ3.out.cell.1 3
  go_upto_region 5 with (go_at_call 19; refine HC3.out.mono ?_; rintro e w4 ⟨A1, c1, rfl, ho1, hb4⟩; have HZ4 := Lib.hid (HZ3.out.keep hb4); obtain ⟨q0, q1, q2, q3, q4, q5, qf⟩ := HZ4.out.six; have HY4 := Lib.hid (HY3.out.keep hb4); have HB4 := Lib.hid (HB3.out.trans (hb4.mono HB3.out.size)); have HO4 := Lib.hid (SL.of_own ho1); clear ho1 hb4)
  obtain ⟨W5, hW5⟩ : ∃ W5, W5 = w4.setCell ⟨y, 3, none⟩ (.slice A1 xl.length c1) := ⟨_, rfl⟩
  have HZ5 : Hid (Blk W5 y 32 #[.string xn, .string xv, .bool xi, .slice A1 xl.length c1, .bool xe, .bool xf]) := Lib.hid (by rw [hW5]; exact HZ4.out.set_ 3 _)
  have HY5 : Hid (Blk W5 (bx + 1) 32 #[.string ⟨#[]⟩, .string ⟨#[]⟩, .bool false, .slice none 0 0, .bool false, .bool false]) := Lib.hid (by rw [hW5]; exact HY4.out.far HYW.out.2 _)
  have HB5 : Hid (Below w.heap.size w W5) := Lib.hid (by rw [hW5]; exact HB4.out.setCell HYW.out.1 _)
  have HO5 : Hid (SL W5 (.slice A1 xl.length c1) xl) := Lib.hid (by rw [hW5]; exact HO4.out.keepT (KeepT.setCell HZ4.out (by decide) 3 _))
  rw [← hW5]
  clear hW5 q0 q1 q2 q3 q4 q5 qf HZ4 HY4 HB4 HO4 z3 HZ3 HY3 HB3 HC3
  obtain ⟨z0, z1, z2, z3, z4, z5, zf⟩ := HZ5.out.six
  obtain ⟨y0, y1, y2, y3, y4, y5, yf⟩ := HY5.out.six
  obtain ⟨W6, hW6⟩ : ∃ W6, W6 = set6 W5 (bx + 1) 0 (.string xn) (.string xv) (.bool xi) (.slice A1 xl.length c1) (.bool xe) (.bool xf) := ⟨_, rfl⟩
  have HE := set6_blk HY5.out (.string xn) (.string xv) (.bool xi) (.slice A1 xl.length c1) (.bool xe) (.bool xf)
  have HF := Lib.hid (HQ2.out (set6 W5 (bx + 1) 0 (.string xn) (.string xv) (.bool xi) (.slice A1 xl.length c1) (.bool xe) (.bool xf)) (A1, xl.length, c1) (HO5.out.keepT (set6_keepT HY5.out (by decide) 0 _ _ _ _ _ _)) (set6_below HB5.out (by have := HBW.out; omega) 0 _ _ _ _ _ _))
  rw [← hW6] at HE HF
  obtain ⟨k0, k1, k2, k3, k4, k5, _⟩ := HE.six
  unfold set6 at hW6
  have HW6 := Lib.hid hW6
  clear hW6 HE
  go_wp2_with fail
  rw [← HW6.out]
  exact bodyPost_ret (v := .tuple #[.agg #[.string xn, .string xv, .bool xi, .slice A1 xl.length c1, .bool xe, .bool xf], .bool f]) (by simp [results, Tryz.results6, go_sem, k0, k1, k2, k3, k4, k5]) rfl HF.out
end Go.Proofs.YtiapondfajmkaaaGreatDoor
