/- Arithmetic expressions: level. -/
import Derived.Test.YtiigclkebnmopaaGreatDoorArLev
namespace Go.Proofs.YtiigclkebnmopaaGreatDoor
open Go.RowKit Go.Shelf

theorem parse_lev (f lv : Nat) (l : List UInt8) : parse (f + 1) (.lev lv) l = if lv = 10 then parse f .pre l else (parse f (.lev (lv + 1)) l).bind fun x l1 => parse f (.levL lv x) l1 := rfl
theorem parse_levL (lv f : Nat) (x : Ex) (l : List UInt8) : parse (f + 1) (.levL lv x) l = if sg l ∈ levels lv then (parse f (.lev (lv + 1)) (aft (sg l) l)).bind fun y l1 => parse f (.levL lv (bx (sg l) [x, y])) l1 else .ok x (gap l) := rfl

/-- what level has made before its table -/
structure LV3 (w : World) (b lv : Nat) (T l : List UInt8) (W : World) : Prop where
  sx : SX w b (w.heap.size + 1 + 1) T l W
  size : W.heap.size = w.heap.size + 3
  r : W.cell? ⟨w.heap.size, 0, none⟩ = some (.pointer (some ⟨b, 0, none⟩))
  n : W.cell? ⟨w.heap.size + 1, 0, none⟩ = some (.int .i64 (lv : Int))
theorem LV3.start {w : World} {b lv : Nat} {T l : List UInt8} (h : Rd w b T l) : LV3 w b lv T l (((w.alloc (.cells #[.pointer (some ⟨b, 0, none⟩)] 49)).alloc (.cells #[.int .i64 (lv : Int)] 3)).alloc (.cells #[.string ⟨#[]⟩, .int .i64 0, .string ⟨#[]⟩, .slice none 0 0] 25)) := by
  have hlt := h.lt
  have b1 := (Below.refl w.heap.size w).alloc (Nat.le_refl _) (.cells #[.pointer (some ⟨b, 0, none⟩)] 49)
  have b2 := (Below.refl (w.alloc (.cells #[.pointer (some ⟨b, 0, none⟩)] 49)).heap.size (w.alloc (.cells #[.pointer (some ⟨b, 0, none⟩)] 49))).alloc (Nat.le_refl _) (.cells #[.int .i64 (lv : Int)] 3)
  have b3 := (Below.refl ((w.alloc (.cells #[.pointer (some ⟨b, 0, none⟩)] 49)).alloc (.cells #[.int .i64 (lv : Int)] 3)).heap.size ((w.alloc (.cells #[.pointer (some ⟨b, 0, none⟩)] 49)).alloc (.cells #[.int .i64 (lv : Int)] 3))).alloc (Nat.le_refl _) (.cells #[.string ⟨#[]⟩, .int .i64 0, .string ⟨#[]⟩, .slice none 0 0] 25)
  have s1 : (w.alloc (.cells #[.pointer (some ⟨b, 0, none⟩)] 49)).heap.size = w.heap.size + 1 := by simp
  have s2 : ((w.alloc (.cells #[.pointer (some ⟨b, 0, none⟩)] 49)).alloc (.cells #[.int .i64 (lv : Int)] 3)).heap.size = w.heap.size + 1 + 1 := by simp
  have s3 : (((w.alloc (.cells #[.pointer (some ⟨b, 0, none⟩)] 49)).alloc (.cells #[.int .i64 (lv : Int)] 3)).alloc (.cells #[.string ⟨#[]⟩, .int .i64 0, .string ⟨#[]⟩, .slice none 0 0] 25)).heap.size = w.heap.size + 3 := by simp
  have F := Four.new ((w.alloc (.cells #[.pointer (some ⟨b, 0, none⟩)] 49)).alloc (.cells #[.int .i64 (lv : Int)] 3)) (.string ⟨#[]⟩) (.int .i64 0) (.string ⟨#[]⟩) (.slice none 0 0)
  rw [s2] at F
  have c1 : (w.alloc (.cells #[.pointer (some ⟨b, 0, none⟩)] 49)).cell? ⟨w.heap.size, 0, none⟩ = some (.pointer (some ⟨b, 0, none⟩)) := box_cell w _ _ 0
  have c2 : ((w.alloc (.cells #[.pointer (some ⟨b, 0, none⟩)] 49)).alloc (.cells #[.int .i64 (lv : Int)] 3)).cell? ⟨w.heap.size + 1, 0, none⟩ = some (.int .i64 (lv : Int)) := by
    rw [← s1]
    exact box_cell _ _ _ 0
  have c3 := (World.cell?_of_block (a := ⟨w.heap.size, 0, none⟩) (b2.block w.heap.size (by omega))).trans c1
  have ba := (((Below.refl w.heap.size w).alloc (Nat.le_refl _) (.cells #[.pointer (some ⟨b, 0, none⟩)] 49)).alloc (by omega) (.cells #[.int .i64 (lv : Int)] 3)).alloc (by omega) (.cells #[.string ⟨#[]⟩, .int .i64 0, .string ⟨#[]⟩, .slice none 0 0] 25)
  exact ⟨⟨h.keep ba, Only.of ba (Nat.le_refl _), F, by omega, hlt⟩, s3, (World.cell?_of_block (a := ⟨w.heap.size, 0, none⟩) (b3.block w.heap.size (by omega))).trans c3, (World.cell?_of_block (a := ⟨w.heap.size + 1, 0, none⟩) (b3.block (w.heap.size + 1) (by omega))).trans c2⟩
/-- and with the table -/
structure LV5 (w : World) (b lv bx g : Nat) (T l : List UInt8) (W : World) : Prop where
  sx : SX w b bx T l W
  bxe : bx = w.heap.size + 1 + 1
  r : W.cell? ⟨w.heap.size, 0, none⟩ = some (.pointer (some ⟨b, 0, none⟩))
  n : W.cell? ⟨w.heap.size + 1, 0, none⟩ = some (.int .i64 (lv : Int))
  size : w.heap.size + 3 ≤ W.heap.size
  row : lv < 10 → W.cell? ⟨g, lv, none⟩ = some (.slice (some ⟨w.heap.size + 3 + 1 + lv, 0, none⟩) (levels lv).length (levels lv).length)
  txt : lv < 10 → TX W (w.heap.size + 3 + 1 + lv) 0 (levels lv)
  lt : lv < 10 → w.heap.size + 3 + 1 + lv < W.heap.size
theorem LV5.start {w w3 w4 : World} {b lv : Nat} {T l : List UInt8} (h : LV3 w b lv T l w3) {e : Ending} (hg : LevGives w3 e w4) : LV5 w b lv (w.heap.size + 1 + 1) w4.heap.size T l (w4.alloc (.cells #[levV (w.heap.size + 3) 0, levV (w.heap.size + 3) 1, levV (w.heap.size + 3) 2, levV (w.heap.size + 3) 3, levV (w.heap.size + 3) 4, levV (w.heap.size + 3) 5, levV (w.heap.size + 3) 6, levV (w.heap.size + 3) 7, levV (w.heap.size + 3) 8, levV (w.heap.size + 3) 9] 256)) := by
  have ba := (Below.refl w4.heap.size w4).alloc (Nat.le_refl _) (.cells #[levV (w.heap.size + 3) 0, levV (w.heap.size + 3) 1, levV (w.heap.size + 3) 2, levV (w.heap.size + 3) 3, levV (w.heap.size + 3) 4, levV (w.heap.size + 3) 5, levV (w.heap.size + 3) 6, levV (w.heap.size + 3) 7, levV (w.heap.size + 3) 8, levV (w.heap.size + 3) 9] 256)
  obtain ⟨_, hb, hs, ht⟩ := hg
  have s3 := h.size
  rw [s3] at ht
  have hx := (h.sx.below hb).below ba
  refine ⟨hx, rfl, ?_, ?_, ?_, ?_, ?_, ?_⟩
  · exact (World.cell?_of_block (a := ⟨w.heap.size, 0, none⟩) (ba.block w.heap.size (by omega))).trans ((World.cell?_of_block (a := ⟨w.heap.size, 0, none⟩) (hb.block w.heap.size (by omega))).trans h.r)
  · exact (World.cell?_of_block (a := ⟨w.heap.size + 1, 0, none⟩) (ba.block (w.heap.size + 1) (by omega))).trans ((World.cell?_of_block (a := ⟨w.heap.size + 1, 0, none⟩) (hb.block (w.heap.size + 1) (by omega))).trans h.n)
  · have := ba.size; omega
  · intro hl
    rw [box_cell]
    match lv, hl with
    | 0, _ => rfl
    | 1, _ => rfl
    | 2, _ => rfl
    | 3, _ => rfl
    | 4, _ => rfl
    | 5, _ => rfl
    | 6, _ => rfl
    | 7, _ => rfl
    | 8, _ => rfl
    | 9, _ => rfl
  · intro hl
    exact (ht lv hl).keep ba (by omega)
  · intro hl
    have := ba.size
    omega
theorem LV5.below {w W W' : World} {b lv bx g : Nat} {T l : List UInt8} (h : LV5 w b lv bx g T l W) (hg : g < W.heap.size) (hb : Below W.heap.size W W') : LV5 w b lv bx g T l W' := by
  have hs := h.size
  exact ⟨h.sx.below hb, h.bxe, (World.cell?_of_block (a := ⟨w.heap.size, 0, none⟩) (hb.block w.heap.size (by omega))).trans h.r, (World.cell?_of_block (a := ⟨w.heap.size + 1, 0, none⟩) (hb.block (w.heap.size + 1) (by omega))).trans h.n, Nat.le_trans hs hb.size,
    fun hl => (World.cell?_of_block (a := ⟨g, lv, none⟩) (hb.block g hg)).trans (h.row hl), fun hl => (h.txt hl).keep hb (h.lt hl), fun hl => Nat.lt_of_lt_of_le (h.lt hl) hb.size⟩
theorem levels_le (lv : Nat) : (levels lv).length ≤ 100 := by
  by_cases h : lv < 10
  · match lv, h with
    | 0, _ => decide
    | 1, _ => decide
    | 2, _ => decide
    | 3, _ => decide
    | 4, _ => decide
    | 5, _ => decide
    | 6, _ => decide
    | 7, _ => decide
    | 8, _ => decide
    | 9, _ => decide
  · have : levels lv = [] := by
      unfold levels
      rw [Array.getElem?_eq_none (by simp; omega)]
      rfl
    rw [this]
    decide
/-- the call of chain -/
theorem LV5.chain {w W : World} {f b lv bx g : Nat} {T l : List UInt8} (hlv : lv < 10) (h : LV5 w b lv bx g T l W) (hm : MX b w) (hL : ∀ f', f' ≤ f → CtrL (lv + 1) f' b T) (hn : (parse f (.lev (lv + 1)) l).bind (fun x l1 => parse f (.levL lv x) l1) ≠ .none) :
    Calls Tryz.prog 53 #[.pointer (some ⟨b, 0, none⟩), .func (.func 197) #[] #[.pointer (some ⟨w.heap.size, 0, none⟩), .pointer (some ⟨w.heap.size + 1, 0, none⟩)], .slice (some ⟨w.heap.size + 3 + 1 + lv, 0, none⟩) (levels lv).length (levels lv).length] W (PG b T ((parse f (.lev (lv + 1)) l).bind (fun x l1 => parse f (.levL lv x) l1)) W) := by
  have hne := h.sx.ne
  have hs := h.size
  refine chain_b f b (w.heap.size + 3 + 1 + lv) 0 (levels lv).length w.heap.size (w.heap.size + 1) lv T l (levels lv) W h.sx.rd (h.txt hlv) (by omega) (h.lt hlv) (levels_ne lv) (levels_le lv) (fun f x l => parse_levL lv f x l) (fun f' hf' l' W' ho hr hn' => ?_) hn
  exact levelc_any f' b w.heap.size (w.heap.size + 1) lv T hlv (hL f' hf') l' W' hr (hm.only (h.sx.only.trans ho)) ((World.cell?_of_block (a := ⟨w.heap.size, 0, none⟩) (ho.block w.heap.size (by omega) (by omega))).trans h.r) ((World.cell?_of_block (a := ⟨w.heap.size + 1, 0, none⟩) (ho.block (w.heap.size + 1) (by omega) (by omega))).trans h.n) (by have := ho.size; omega) (by have := ho.size; omega) hn'

set_option maxRecDepth 100000 in
set_option maxHeartbeats 6400000 in
theorem level_any (f b lv : Nat) (T : List UInt8) (hlv : lv ≤ 10) (hP : Ctr 196 .pre f b T) (hL : lv < 10 → ∀ f', f' ≤ f → CtrL (lv + 1) f' b T) : CtrL lv (f + 1) b T := by
  intro l w h hm hn
  have HPr := Lib.hid (hP.at hm)
  have HM := Lib.hid hm
  have HLv := Lib.hid hL
  have HNn := Lib.hid hn
  have hlt := h.lt
  have HX0 := Lib.hid (LV3.start (lv := lv) h)
  obtain ⟨o, ho⟩ : ∃ o, parse (f + 1) (.lev lv) l = o := ⟨_, rfl⟩
  have HO := Lib.hid ho
  obtain ⟨Q, hQ⟩ : ∃ Q, PG b T o w = Q := ⟨_, rfl⟩
  rw [ho, hQ]
  have HQ := Lib.hid hQ
  clear hQ h hn hP hL ho
  go_enter Tryz.func156, Tryz.ntmps156
  go_wp2_with fail
  generalize (((w.alloc (.cells #[.pointer (some ⟨b, 0, none⟩)] 49)).alloc (.cells #[.int .i64 (lv : Int)] 3)).alloc (.cells #[.string ⟨#[]⟩, .int .i64 0, .string ⟨#[]⟩, .slice none 0 0] 25)) = w3 at *
  refine (binary_any w3).mono ?_
  rintro e w4 HG
  have hs3 := HX0.out.size
  have HX5 := Lib.hid (LV5.start HX0.out HG)
  obtain ⟨rfl, _, _, _⟩ := HG
  rw [hs3]
  obtain ⟨A0, n0, c0, e0⟩ : ∃ A n c, levV (w.heap.size + 3) 0 = .slice A n c := ⟨_, _, _, rfl⟩
  obtain ⟨A1, n1, c1, e1⟩ : ∃ A n c, levV (w.heap.size + 3) 1 = .slice A n c := ⟨_, _, _, rfl⟩
  obtain ⟨A2, n2, c2, e2⟩ : ∃ A n c, levV (w.heap.size + 3) 2 = .slice A n c := ⟨_, _, _, rfl⟩
  obtain ⟨A3, n3, c3, e3⟩ : ∃ A n c, levV (w.heap.size + 3) 3 = .slice A n c := ⟨_, _, _, rfl⟩
  obtain ⟨A4, n4, c4, e4⟩ : ∃ A n c, levV (w.heap.size + 3) 4 = .slice A n c := ⟨_, _, _, rfl⟩
  obtain ⟨A5, n5, c5, e5⟩ : ∃ A n c, levV (w.heap.size + 3) 5 = .slice A n c := ⟨_, _, _, rfl⟩
  obtain ⟨A6, n6, c6, e6⟩ : ∃ A n c, levV (w.heap.size + 3) 6 = .slice A n c := ⟨_, _, _, rfl⟩
  obtain ⟨A7, n7, c7, e7⟩ : ∃ A n c, levV (w.heap.size + 3) 7 = .slice A n c := ⟨_, _, _, rfl⟩
  obtain ⟨A8, n8, c8, e8⟩ : ∃ A n c, levV (w.heap.size + 3) 8 = .slice A n c := ⟨_, _, _, rfl⟩
  obtain ⟨A9, n9, c9, e9⟩ : ∃ A n c, levV (w.heap.size + 3) 9 = .slice A n c := ⟨_, _, _, rfl⟩
  rw [e0, e1, e2, e3, e4, e5, e6, e7, e8, e9] at HX5
  rw [e0, e1, e2, e3, e4, e5, e6, e7, e8, e9]
  clear hs3 HX0 e0 e1 e2 e3 e4 e5 e6 e7 e8 e9
  go_upto_region 2 with fail
  have hg5 : w4.heap.size < (w4.alloc (.cells #[.slice A0 n0 c0, .slice A1 n1 c1, .slice A2 n2 c2, .slice A3 n3 c3, .slice A4 n4 c4, .slice A5 n5 c5, .slice A6 n6 c6, .slice A7 n7 c7, .slice A8 n8 c8, .slice A9 n9 c9] 256)).heap.size := by simp
  generalize w4.alloc (.cells #[.slice A0 n0 c0, .slice A1 n1 c1, .slice A2 n2 c2, .slice A3 n3 c3, .slice A4 n4 c4, .slice A5 n5 c5, .slice A6 n6 c6, .slice A7 n7 c7, .slice A8 n8 c8, .slice A9 n9 c9] 256) = w5 at *
  generalize w4.heap.size = g at *
  obtain ⟨bx, hbx⟩ : ∃ bx, w.heap.size + 1 + 1 = bx := ⟨_, rfl⟩
  rw [hbx] at HX5
  simp only [hbx]
  clear hbx
  have kr := HX5.out.r
  have kn := HX5.out.n
  by_cases h10 : lv = 10
  · have hq : ((lv : Int) == 10) = true := by rw [h10]; rfl
    have HO2 := Lib.hid (HO.out.symm.trans ((parse_lev f lv l).trans (if_pos h10)))
    have HNn2 := Lib.hid (show parse f .pre l ≠ .none from fun e => HNn.out (((parse_lev f lv l).trans (if_pos h10)).trans e))
    clear h10
    have HX2 := Lib.hid HX5.out.sx
    clear HX5
    go_wp2_with fail
    refine (HPr.out l _ HX2.out.rd HX2.out.only HNn2.out).mono ?_
    intro e w3 hp
    rw [← HO2.out] at hp
    rcases out_cases o with ⟨x, l1, rfl⟩ | hno
    · obtain ⟨v, rfl, hx, hr3, ho3⟩ := hp
      obtain ⟨n, A, k, c, nm, rfl, hnm⟩ := hx.form
      have HE := Lib.hid (HX2.out.givesV hr3 ho3 hx rfl)
      have HX3 := Lib.hid (HX2.out.step hr3 ho3)
      clear hx hr3 ho3 hnm
      obtain ⟨d0, d1, d2, d3, df⟩ := HX3.out.res.cells
      go_wp2_with fail
      obtain ⟨q0, q1, q2, q3, qf⟩ := HE.out.2.cells
      unfold set4 at q0 q1 q2 q3
      refine bodyPost_ret (v := .agg #[.string (toB x.op), .int .i64 (n : Int), .string (toB nm), .slice A k c]) (by simp [results, Tryz.results156, go_sem, q0, q1, q2, q3]) rfl ?_
      rw [← HQ.out]
      exact HE.out.1
    · obtain ⟨p, c, rfl, ho3, HF⟩ := PG.fail hno hp
      have HO3 := Lib.hid (HX2.out.only.trans ho3)
      have HFF := Lib.hid HF
      clear hp hno ho3 HF
      unfold pan
      go_wp2_with fail
      rw [← HQ.out]
      have h0 := HFF.out Out.ok _ HO3.out
      rw [bind_ok] at h0
      exact ⟨rfl, h0⟩
  · have hq : ((lv : Int) == 10) = false := by rw [beq_eq_false_iff_ne]; omega
    have hl10 : lv < 10 := by omega
    have HO2 := Lib.hid (HO.out.symm.trans ((parse_lev f lv l).trans (if_neg h10)))
    have HNn2 := Lib.hid (show (parse f (.lev (lv + 1)) l).bind (fun x l1 => parse f (.levL lv x) l1) ≠ .none from fun e => HNn.out (((parse_lev f lv l).trans (if_neg h10)).trans e))
    have HX6 := Lib.hid (HX5.out.below hg5 ((Below.refl _ w5).drew))
    have HC := Lib.hid (LV5.chain hl10 HX6.out HM.out (HLv.out hl10) HNn2.out)
    rw [← HO2.out] at HC
    have kx := HX5.out.row hl10
    have i1 : (0 : Int) ≤ (lv : Int) := by omega
    have i2 : (lv : Int) < 10 := by omega
    have i3 : (lv : Int).toNat = lv := rfl
    clear h10 HX5
    go_upto_region 4 with fail
    rcases out_cases o with ⟨x, l1, rfl⟩ | hno
    · go_region_law (first
        | (go_simp; go_at_call 53; refine HC.out.mono ?_; rintro e w6 ⟨v, rfl, hx, hr6, ho6⟩; obtain ⟨n, A, k, c, nm, rfl, hnm⟩ := hx.form; have HE := Lib.hid (HX6.out.sx.givesV hr6 ho6 hx rfl); have HX7 := Lib.hid (HX6.out.sx.step hr6 ho6); clear hx hr6 ho6 hnm; obtain ⟨d0, d1, d2, d3, df⟩ := HX7.out.res.cells))
      all_goals
        go_wp2_with fail
        obtain ⟨q0, q1, q2, q3, qf⟩ := HE.out.2.cells
        unfold set4 at q0 q1 q2 q3
        refine bodyPost_ret (v := .agg #[.string (toB x.op), .int .i64 (n : Int), .string (toB nm), .slice A k c]) (by simp [results, Tryz.results156, go_sem, q0, q1, q2, q3]) rfl ?_
        rw [← HQ.out]
        exact HE.out.1
    · go_region_with (first
        | (go_at_call 53; refine HC.out.mono ?_; intro e w6 hp; obtain ⟨p, c, rfl, ho6, HF⟩ := PG.fail hno hp; have h0 := HF Out.ok w (HX6.out.sx.only.trans ho6); rw [bind_ok] at h0; have HFF := Lib.hid h0; clear h0 hp ho6 HF; unfold pan; go_wp2_with fail; refine region_ends w6 ?_ ?_; (refine ⟨rfl, ?_⟩; rw [← HQ.out]; exact HFF.out)))
      all_goals trivial

end Go.Proofs.YtiigclkebnmopaaGreatDoor

namespace Go.Proofs.YtiigclkebnmopaaGreatDoor
open Go.RowKit Go.Shelf

theorem parse_exprL (f : Nat) (x : Ex) (l : List UInt8) : parse (f + 1) (.exprL x) l = if sg l ∈ ([[44]] : List (List UInt8)) then (parse f .assign (aft (sg l) l)).bind fun y l1 => parse f (.exprL (bx (sg l) [x, y])) l1 else .ok x (gap l) := by
  have h : parse (f + 1) (.exprL x) l = if sg l = [44] then (parse f .assign (aft (sg l) l)).bind fun y l1 => parse f (.exprL (bx (sg l) [x, y])) l1 else .ok x (gap l) := rfl
  rw [h]
  simp only [List.mem_singleton]

set_option maxRecDepth 100000 in
set_option maxHeartbeats 6400000 in
theorem expression_any (f b : Nat) (T : List UInt8) (hA : ∀ f', f' ≤ f → Ctr 54 .assign f' b T) : Ctr 20 .expr (f + 1) b T := by
  intro l w h hm hn
  have HM := Lib.hid hm
  have HX0 := Lib.hid (SX.start h)
  have HA := Lib.hid hA
  have hlt := h.lt
  have hn2 : (parse f .assign l).bind (fun x l1 => parse f (.exprL x) l1) ≠ .none := hn
  obtain ⟨o, ho⟩ : ∃ o, (parse f .assign l).bind (fun x l1 => parse f (.exprL x) l1) = o := ⟨_, rfl⟩
  have HO := Lib.hid ho
  have HNn := Lib.hid hn2
  obtain ⟨Q, hQ⟩ : ∃ Q, PG b T o w = Q := ⟨_, rfl⟩
  rw [show parse (f + 1) .expr l = o from ho, hQ]
  have HQ := Lib.hid hQ
  clear hQ h hn hn2 hA ho
  go_enter Tryz.func20, Tryz.ntmps20
  go_wp2_with fail
  have hs1 : (w.alloc (.cells #[.string ⟨#[]⟩, .int .i64 0, .string ⟨#[]⟩, .slice none 0 0] 25)).heap.size = w.heap.size + 1 := by simp
  generalize w.alloc (.cells #[.string ⟨#[]⟩, .int .i64 0, .string ⟨#[]⟩, .slice none 0 0] 25) = w1 at *
  have ba := (Below.refl w1.heap.size w1).alloc (Nat.le_refl _) (.cells #[.string ⟨#[44]⟩] 9)
  have HX2 := Lib.hid (HX0.out.below ba)
  have HT := Lib.hid (TX.new w1 #[.string ⟨#[44]⟩] 9 [[44]] rfl)
  have hs2 : w1.heap.size < (w1.alloc (.cells #[.string ⟨#[44]⟩] 9)).heap.size := by simp
  generalize w1.alloc (.cells #[.string ⟨#[44]⟩] 9) = w2 at *
  have HC := Lib.hid (chain_a f b w1.heap.size 0 1 T l [[44]] w2 HX2.out.rd HT.out (by omega) hs2 (by decide) (by decide) (fun f x l => parse_exprL f x l) (fun f' hf' l' W' ho hr hn' => HA.out f' hf' l' W' hr (HM.out.only (HX2.out.only.trans ho)) hn') HNn.out)
  rw [hs1, HO.out] at HC
  clear ba HT hs1 hs2 HX0
  obtain ⟨bx, hbx⟩ : ∃ bx, w.heap.size = bx := ⟨_, rfl⟩
  rw [hbx] at HX2 HC
  simp only [hbx]
  clear hbx
  refine HC.out.mono ?_
  intro e w3 hp
  clear HC
  rcases out_cases o with ⟨x, l1, rfl⟩ | hno
  · obtain ⟨v, rfl, hx, hr3, ho3⟩ := hp
    obtain ⟨n, A, k, c, nm, rfl, hnm⟩ := hx.form
    have HE := Lib.hid (HX2.out.givesV hr3 ho3 hx rfl)
    have HX3 := Lib.hid (HX2.out.step hr3 ho3)
    clear hx hr3 ho3 hnm
    obtain ⟨d0, d1, d2, d3, df⟩ := HX3.out.res.cells
    go_wp2_with fail
    obtain ⟨q0, q1, q2, q3, qf⟩ := HE.out.2.cells
    unfold set4 at q0 q1 q2 q3
    refine bodyPost_ret (v := .agg #[.string (toB x.op), .int .i64 (n : Int), .string (toB nm), .slice A k c]) (by simp [results, Tryz.results20, go_sem, q0, q1, q2, q3]) rfl ?_
    rw [← HQ.out]
    exact HE.out.1
  · obtain ⟨p, c, rfl, ho3, HF⟩ := PG.fail hno hp
    have HO3 := Lib.hid (HX2.out.only.trans ho3)
    have HFF := Lib.hid HF
    clear hp hno ho3 HF
    unfold pan
    go_wp2_with fail
    rw [← HQ.out]
    have h0 := HFF.out Out.ok _ HO3.out
    rw [bind_ok] at h0
    exact ⟨rfl, h0⟩

end Go.Proofs.YtiigclkebnmopaaGreatDoor

namespace Go.Proofs.YtiigclkebnmopaaGreatDoor
open Go.RowKit Go.Shelf

/-- a row of parts is the result's -/
theorem SX.givesR {w W : World} {b bx : Nat} {T l : List UInt8} (hs : SX w b bx T l W) (row : Array Value) (L : List Ex) (hL : ExL (fun g => w.heap.size ≤ g ∧ g ≠ bx) (W.alloc (.cells row 25)) W.heap.size 0 L) (hne : 0 < L.length) (s nm : List UInt8) {o : Out} (heq : o = .ok (.mk s 0 nm L) l) :
    PG b T o w (.returned (.agg #[.string (toB s), .int .i64 0, .string (toB nm), .slice (some ⟨W.heap.size, 0, none⟩) L.length L.length])) ((set4 W bx (.string (toB s)) (.int .i64 0) (.string (toB nm)) (.slice (some ⟨W.heap.size, 0, none⟩) L.length L.length)).alloc (.cells row 25)) ∧
      Four ((set4 W bx (.string (toB s)) (.int .i64 0) (.string (toB nm)) (.slice (some ⟨W.heap.size, 0, none⟩) L.length L.length)).alloc (.cells row 25)) bx (.string (toB s)) (.int .i64 0) (.string (toB nm)) (.slice (some ⟨W.heap.size, 0, none⟩) L.length L.length) := by
  have ba := (Below.refl W.heap.size W).alloc (Nat.le_refl _) (.cells row 25)
  have hn := hs.ne
  have hl := hs.lt
  rw [← set4_alloc W _ bx _ _ _ _ hl]
  exact (hs.below ba).gives (exv_row hL ⟨by omega, by omega⟩ (by simp) hne s nm _ rfl) heq
/-- a reading function that holds two operands in boxes -/
structure SC (w : World) (b bx gx gy : Nat) (T l : List UInt8) (v0 v1 v2 v3 u0 u1 u2 u3 : Value) (x y : Ex) (W : World) : Prop where
  sb : SB w b bx gx T l v0 v1 v2 v3 x W
  four : Four W gy u0 u1 u2 u3
  val : ExV (fun g => w.heap.size ≤ g ∧ g ≠ bx) W (.agg #[u0, u1, u2, u3]) y
  lt : gx < gy
theorem SB.box2 {w w4 W : World} {b bx gx : Nat} {T l l2 : List UInt8} {v0 v1 v2 v3 u0 u1 u2 u3 : Value} {x y : Ex} (h : SB w b bx gx T l v0 v1 v2 v3 x w4) (hr : Rd W b T l2) (ho : Only b w4 W) (hy : ExV (Nw w4) W (.agg #[u0, u1, u2, u3]) y) :
    SC w b bx gx W.heap.size T l2 v0 v1 v2 v3 u0 u1 u2 u3 x y (W.alloc (.cells #[u0, u1, u2, u3] 25)) := by
  have ba := (Below.refl W.heap.size W).alloc (Nat.le_refl _) (.cells #[u0, u1, u2, u3] 25)
  have s1 := h.sx.only.size
  have s2 := ho.size
  have s3 := h.sx.lt
  have s4 := h.four.lt
  refine ⟨(h.step hr ho).below ba, Four.new W _ _ _ _, (hy.mono (fun g hg _ => ?_)).below ba, by omega⟩
  have hgw : w4.heap.size ≤ g := hg
  exact ⟨by omega, by omega⟩
theorem SC.step {w W W' : World} {b bx gx gy : Nat} {T l l' : List UInt8} {v0 v1 v2 v3 u0 u1 u2 u3 : Value} {x y : Ex} (h : SC w b bx gx gy T l v0 v1 v2 v3 u0 u1 u2 u3 x y W) (hr : Rd W' b T l') (ho : Only b W W') : SC w b bx gx gy T l' v0 v1 v2 v3 u0 u1 u2 u3 x y W' := by
  have h1 := h.sb.sx.ne
  have h2 := h.sb.lt
  have h3 := h.lt
  exact ⟨h.sb.step hr ho, h.four.only ho (by omega), h.val.only ho (fun hh => by have := hh.1; omega), h.lt⟩
theorem SC.below {w W W' : World} {b bx gx gy : Nat} {T l : List UInt8} {v0 v1 v2 v3 u0 u1 u2 u3 : Value} {x y : Ex} (h : SC w b bx gx gy T l v0 v1 v2 v3 u0 u1 u2 u3 x y W) (hb : Below W.heap.size W W') : SC w b bx gx gy T l v0 v1 v2 v3 u0 u1 u2 u3 x y W' :=
  ⟨h.sb.below hb, h.four.keep hb, h.val.below hb, h.lt⟩
/-- three operands are the parts of the result -/
theorem SC.gives3 {w w6 W : World} {b bx gx gy : Nat} {T l l3 : List UInt8} {v0 v1 v2 v3 u0 u1 u2 u3 z0 z1 z2 z3 : Value} {x y z : Ex} (h : SC w b bx gx gy T l v0 v1 v2 v3 u0 u1 u2 u3 x y w6) (hr : Rd W b T l3) (ho : Only b w6 W) (hz : ExV (Nw w6) W (.agg #[z0, z1, z2, z3]) z) (s : List UInt8) {o : Out} (heq : o = .ok (Go.Proofs.YtiigclkebnmopaaGreatDoor.bx s [x, y, z]) l3) :
    PG b T o w (.returned (.agg #[.string (toB s), .int .i64 0, .string (toB []), .slice (some ⟨W.heap.size, 0, none⟩) 3 3])) ((set4 W bx (.string (toB s)) (.int .i64 0) (.string (toB [])) (.slice (some ⟨W.heap.size, 0, none⟩) 3 3)).alloc (.cells #[v0, v1, v2, v3, u0, u1, u2, u3, z0, z1, z2, z3] 25)) ∧
      Four ((set4 W bx (.string (toB s)) (.int .i64 0) (.string (toB [])) (.slice (some ⟨W.heap.size, 0, none⟩) 3 3)).alloc (.cells #[v0, v1, v2, v3, u0, u1, u2, u3, z0, z1, z2, z3] 25)) bx (.string (toB s)) (.int .i64 0) (.string (toB [])) (.slice (some ⟨W.heap.size, 0, none⟩) 3 3) := by
  have h2 := h.step hr ho
  have s1 := h.sb.sx.only.size
  have s3 := h.sb.sx.lt
  refine h2.sb.sx.givesR _ [x, y, z] (exl_three (h2.sb.val.mono (fun g hg _ => ⟨hg.1, hg.2.1⟩)) h2.val (hz.mono (fun g hg _ => ?_)) _) (by simp) s [] heq
  have hgw : w6.heap.size ≤ g := hg
  exact ⟨by omega, by omega⟩
/-- two operands are the parts of the result -/
theorem SB.gives2 {w w6 W : World} {b bx gx : Nat} {T l l3 : List UInt8} {v0 v1 v2 v3 z0 z1 z2 z3 : Value} {x z : Ex} (h : SB w b bx gx T l v0 v1 v2 v3 x w6) (hr : Rd W b T l3) (ho : Only b w6 W) (hz : ExV (Nw w6) W (.agg #[z0, z1, z2, z3]) z) (s : List UInt8) {o : Out} (heq : o = .ok (Go.Proofs.YtiigclkebnmopaaGreatDoor.bx s [x, z]) l3) :
    PG b T o w (.returned (.agg #[.string (toB s), .int .i64 0, .string (toB []), .slice (some ⟨W.heap.size, 0, none⟩) 2 2])) ((set4 W bx (.string (toB s)) (.int .i64 0) (.string (toB [])) (.slice (some ⟨W.heap.size, 0, none⟩) 2 2)).alloc (.cells #[v0, v1, v2, v3, z0, z1, z2, z3] 25)) ∧
      Four ((set4 W bx (.string (toB s)) (.int .i64 0) (.string (toB [])) (.slice (some ⟨W.heap.size, 0, none⟩) 2 2)).alloc (.cells #[v0, v1, v2, v3, z0, z1, z2, z3] 25)) bx (.string (toB s)) (.int .i64 0) (.string (toB [])) (.slice (some ⟨W.heap.size, 0, none⟩) 2 2) := by
  have h2 := h.step hr ho
  have s1 := h.sx.only.size
  have s3 := h.sx.lt
  refine h2.sx.givesR _ [x, z] (exl_two (h2.val.mono (fun g hg _ => ⟨hg.1, hg.2.1⟩)) (hz.mono (fun g hg _ => ?_)) _) (by simp) s [] heq
  have hgw : w6.heap.size ≤ g := hg
  exact ⟨by omega, by omega⟩

theorem badAt_gap (l : List UInt8) : badAt (gap l) = badAt l := by unfold badAt; rw [gap_gap]
def choA (f : Nat) (x a : Ex) (l2 : List UInt8) : Out := if sg l2 = [58] then (parse f .choice (aft (sg l2) l2)).bind (fun c l3 => .ok (bx [63] [x, a, c]) l3) else badAt l2
def choK (f : Nat) (x : Ex) (l1 : List UInt8) : Out := if sg l1 = [63] then (parse f .expr (aft (sg l1) l1)).hard.bind (choA f x) else .ok x (gap l1)
theorem parse_cho (f : Nat) (l : List UInt8) : parse (f + 1) .choice l = (parse f (.lev 0) l).bind (choK f) := rfl

set_option maxRecDepth 100000 in
set_option maxHeartbeats 6400000 in
theorem choice_any (f b : Nat) (T : List UInt8) (hL : CtrL 0 f b T) (hE : Ctr 20 .expr f b T) (hC : Ctr 99 .choice f b T) : Ctr 99 .choice (f + 1) b T := by
  intro l w h hm hn
  have HX0 := Lib.hid (SX.start h)
  have hlt := h.lt
  rw [parse_cho] at hn ⊢
  obtain ⟨o0, ho0⟩ : ∃ o0, parse f (.lev 0) l = o0 := ⟨_, rfl⟩
  have HL := Lib.hid (hL l _ HX0.out.rd (hm.only HX0.out.only) (bind_none hn))
  rw [ho0, show ((0 : Nat) : Int) = 0 from rfl] at HL
  rw [ho0] at hn ⊢
  obtain ⟨o, ho⟩ : ∃ o, o0.bind (choK f) = o := ⟨_, rfl⟩
  have HO := Lib.hid ho
  rw [ho] at hn ⊢
  have HNn := Lib.hid hn
  have HEx := Lib.hid (hE.at hm)
  have HCh := Lib.hid (hC.at hm)
  obtain ⟨Q, hQ⟩ : ∃ Q, PG b T o w = Q := ⟨_, rfl⟩
  rw [hQ]
  have HQ := Lib.hid hQ
  clear hQ h hn hL hE hC ho ho0
  go_enter Tryz.func99, Tryz.ntmps99
  go_wp2_with fail
  generalize w.alloc (.cells #[.string ⟨#[]⟩, .int .i64 0, .string ⟨#[]⟩, .slice none 0 0] 25) = w1 at *
  refine HL.out.mono ?_
  intro e w2 hp
  clear HL
  obtain ⟨bx, hbx⟩ : ∃ bx, w.heap.size = bx := ⟨_, rfl⟩
  rw [hbx] at HX0
  simp only [hbx]
  clear hbx
  rcases out_cases o0 with ⟨x, l1, rfl⟩ | hno
  · obtain ⟨v, rfl, hx, hr2, ho2⟩ := hp
    obtain ⟨n, A, k, c, nm, rfl, hnm⟩ := hx.form
    have HB := Lib.hid (HX0.out.box hr2 ho2 hx)
    have HK := Lib.hid (show choK f x l1 = o from HO.out)
    clear hx hr2 ho2 hnm HO
    go_wp2_with fail
    have hs3 : (w2.alloc (.cells #[.string (toB x.op), .int .i64 (n : Int), .string (toB nm), .slice A k c] 25)).heap.size = w2.heap.size + 1 := by simp
    generalize w2.alloc (.cells #[.string (toB x.op), .int .i64 (n : Int), .string (toB nm), .slice A k c] 25) = w3 at *
    have HI := isSign_lit b T l1 [[63]] 1 rfl w3 #[.string ⟨#[63]⟩] rfl HB.out.sx.rd (by decide) (by decide)
    rw [hs3] at HI
    refine HI.mono ?_
    clear HI hs3
    rintro e w4 ⟨hcase, ho4⟩
    have ba := (Below.refl w3.heap.size w3).alloc (Nat.le_refl _) (.cells #[.string ⟨#[63]⟩] 9)
    have HB3 := Lib.hid (HB.out.below ba)
    clear ba HB
    generalize w3.alloc (.cells #[.string ⟨#[63]⟩] 9) = w3' at *
    generalize w2.heap.size = gx at *
    rcases hcase with ⟨hin, rfl, hr4⟩ | ⟨hno, rfl, hr4⟩
    · have HB4 := Lib.hid (HB3.out.step hr4 ho4)
      have hin' : sg l1 = [63] := List.mem_singleton.1 hin
      obtain ⟨o2, ho2⟩ : ∃ o2, (parse f .expr (aft (sg l1) l1)).hard = o2 := ⟨_, rfl⟩
      have HK2 := Lib.hid ((if_pos hin').symm.trans HK.out)
      rw [ho2] at HK2
      have HN2 := Lib.hid (show parse f .expr (aft (sg l1) l1) ≠ .none from fun e => HNn.out (by rw [← HK2.out, ← ho2, e]; rfl))
      have HE2 := Lib.hid ((HEx.out (aft (sg l1) l1) w4 HB4.out.sx.rd HB4.out.sx.only HN2.out).mono (fun e w' hp => PG.hard.2 hp))
      rw [ho2] at HE2
      clear hr4 ho4 hin hin' ho2 HK HB3
      go_wp2_with fail
      refine HE2.out.mono ?_
      intro e w5 hp
      clear HE2
      rcases out_cases o2 with ⟨y, l2, rfl⟩ | hno
      · obtain ⟨v, rfl, hy, hr5, ho5⟩ := hp
        obtain ⟨n5, A5, k5, c5, nm5, rfl, hnm5⟩ := hy.form
        have HB5 := Lib.hid (HB4.out.box2 hr5 ho5 hy)
        have HK3 := Lib.hid (show choA f x y l2 = o from HK2.out)
        clear hy hr5 ho5 hnm5 HB4
        go_wp2_with fail
        have hs6 : (w5.alloc (.cells #[.string (toB y.op), .int .i64 (n5 : Int), .string (toB nm5), .slice A5 k5 c5] 25)).heap.size = w5.heap.size + 1 := by simp
        generalize w5.alloc (.cells #[.string (toB y.op), .int .i64 (n5 : Int), .string (toB nm5), .slice A5 k5 c5] 25) = w6 at *
        have HI := isSign_lit b T l2 [[58]] 1 rfl w6 #[.string ⟨#[58]⟩] rfl HB5.out.sb.sx.rd (by decide) (by decide)
        rw [hs6] at HI
        refine HI.mono ?_
        clear HI hs6
        rintro e w7 ⟨hcase, ho7⟩
        have ba := (Below.refl w6.heap.size w6).alloc (Nat.le_refl _) (.cells #[.string ⟨#[58]⟩] 9)
        have HB6 := Lib.hid (HB5.out.below ba)
        clear ba HB5
        generalize w6.alloc (.cells #[.string ⟨#[58]⟩] 9) = w6' at *
        generalize w5.heap.size = gy at *
        rcases hcase with ⟨hin, rfl, hr7⟩ | ⟨hno, rfl, hr7⟩
        · have HB7 := Lib.hid (HB6.out.step hr7 ho7)
          have HB8 := Lib.hid (HB7.out.below ((Below.refl _ w7).drew))
          have hin' : sg l2 = [58] := List.mem_singleton.1 hin
          obtain ⟨o3, ho3⟩ : ∃ o3, parse f .choice (aft (sg l2) l2) = o3 := ⟨_, rfl⟩
          have HK4 := Lib.hid ((if_pos hin').symm.trans HK3.out)
          rw [ho3] at HK4
          have HN3 := Lib.hid (show parse f .choice (aft (sg l2) l2) ≠ .none from fun e => HNn.out (by rw [← HK4.out, ← ho3, e]; rfl))
          have HE3 := Lib.hid (HCh.out (aft (sg l2) l2) w7.drew HB8.out.sb.sx.rd HB8.out.sb.sx.only HN3.out)
          rw [ho3] at HE3
          obtain ⟨c0, c1, c2, c3, cf⟩ := HB7.out.sb.four.cells
          obtain ⟨b0, b1, b2, b3, bf⟩ := HB7.out.four.cells
          clear hr7 ho7 hin hin' ho3 HK3 HB6
          go_upto_region 9 with fail
          rcases out_cases o3 with ⟨z, l3, rfl⟩ | hno
          · go_region_law (first
              | (go_simp; go_at_call 99; refine HE3.out.mono ?_; rintro e w8 ⟨v, rfl, hz, hr8, ho8⟩; obtain ⟨n8, A8, k8, c8, nm8, rfl, hnm8⟩ := hz.form; have HE := Lib.hid (HB8.out.gives3 hr8 ho8 hz [63] HK4.out.symm); have HX9 := Lib.hid (HB8.out.step hr8 ho8); clear hz hr8 ho8 hnm8; obtain ⟨d0, d1, d2, d3, df⟩ := HX9.out.sb.sx.res.cells; obtain ⟨e0, e1, e2, e3, ef⟩ := HX9.out.sb.four.cells; obtain ⟨g0, g1, g2, g3, gf⟩ := HX9.out.four.cells; have hlt9 := HX9.out.sb.sx.lt))
            all_goals
              go_wp2_with fail
              obtain ⟨q0, q1, q2, q3, qf⟩ := HE.out.2.cells
              unfold set4 at q0 q1 q2 q3
              rw [show toB [] = (⟨#[]⟩ : ByteArray) from rfl, show toB [63] = (⟨#[63]⟩ : ByteArray) from rfl] at q0 q1 q2 q3
              refine bodyPost_ret (v := .agg #[.string ⟨#[63]⟩, .int .i64 0, .string ⟨#[]⟩, .slice (some ⟨w8.heap.size, 0, none⟩) 3 3]) (by simp [results, Tryz.results99, go_sem, q0, q1, q2, q3]) rfl ?_
              rw [← HQ.out]
              exact HE.out.1
          · go_region_with (first
              | (go_at_call 99; refine HE3.out.mono ?_; intro e w8 hp; obtain ⟨p, cc, rfl, ho8, HF⟩ := PG.fail hno hp; have h0 := HF (fun c l3 => .ok (Go.Proofs.YtiigclkebnmopaaGreatDoor.bx [63] [x, y, c]) l3) w (HB8.out.sb.sx.only.trans ho8); rw [HK4.out] at h0; have HFF := Lib.hid h0; clear h0 hp ho8 HF; unfold pan; go_wp2_with fail; refine region_ends w8 ?_ ?_; (refine ⟨rfl, ?_⟩; rw [← HQ.out]; exact HFF.out)))
            all_goals trivial
        · have HB7 := Lib.hid (HB6.out.step hr7 ho7)
          have HK4 := Lib.hid ((if_neg (fun h => hno (List.mem_singleton.2 h))).symm.trans HK3.out)
          have HW := Lib.hid (wrong_any b T (gap l2) w7 hr7)
          clear hr7 ho7 hno HK3 HB6
          go_wp2_with fail
          refine HW.out.mono ?_
          intro e w8 hw
          obtain ⟨hpg, p, cc, rfl⟩ := PG.badAt hw HB7.out.sb.sx.only
          rw [badAt_gap, HK4.out] at hpg
          have HPG := Lib.hid hpg
          clear hw hpg HW
          unfold pan
          go_wp2_with fail
          rw [← HQ.out]
          exact ⟨rfl, HPG.out⟩
      · obtain ⟨p, cc, rfl, ho5, HF⟩ := PG.fail hno hp
        have h0 := HF (choA f x) w (HB4.out.sx.only.trans ho5)
        rw [HK2.out] at h0
        have HFF := Lib.hid h0
        clear h0 hp hno ho5 HF
        unfold pan
        go_wp2_with fail
        rw [← HQ.out]
        exact ⟨rfl, HFF.out⟩
    · have HB4 := Lib.hid (HB3.out.step hr4 ho4)
      have HLr := Lib.hid ((if_neg (fun h => hno (List.mem_singleton.2 h))).symm.trans HK.out)
      clear hr4 ho4 hno HK HB3
      obtain ⟨c0, c1, c2, c3, cf⟩ := HB4.out.four.cells
      obtain ⟨d0, d1, d2, d3, df⟩ := HB4.out.sx.res.cells
      have hlt4 := HB4.out.sx.lt
      have HE := Lib.hid (HB4.out.gives HLr.out.symm)
      go_wp2_with fail
      obtain ⟨q0, q1, q2, q3, qf⟩ := HE.out.2.cells
      unfold set4 at q0 q1 q2 q3
      refine bodyPost_ret (v := .agg #[.string (toB x.op), .int .i64 (n : Int), .string (toB nm), .slice A k c]) (by simp [results, Tryz.results99, go_sem, q0, q1, q2, q3]) rfl ?_
      rw [← HQ.out]
      exact HE.out.1
  · obtain ⟨p, c, rfl, ho2, HF⟩ := PG.fail hno hp
    have HO2 := Lib.hid (HX0.out.only.trans ho2)
    have HFF := Lib.hid HF
    clear hp hno ho2 HF
    unfold pan
    go_wp2_with fail
    rw [← HQ.out, ← HO.out]
    exact ⟨rfl, HFF.out _ _ HO2.out⟩

end Go.Proofs.YtiigclkebnmopaaGreatDoor
