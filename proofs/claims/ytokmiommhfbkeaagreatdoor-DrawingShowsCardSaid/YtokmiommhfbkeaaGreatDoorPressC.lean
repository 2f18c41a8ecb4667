/- The program's Press at a good line and a key that moves. -/
import Derived.Test.YtokmiommhfbkeaaGreatDoorPressB
import Derived.Test.YtokmiommhfbkeaaGreatDoorEditE
namespace Go.Proofs.YtokmiommhfbkeaaGreatDoor
open Go.RowKit

theorem keyL_other {kind : Int} (h19 : ¬ kind = 19) (h20 : ¬ kind = 20) (h21 : ¬ kind = 21) (l : EL) (h : List ByteArray) (byte : Int) : keyL l h kind byte = changeL l kind byte := by
  unfold keyL; rw [if_neg h19, if_neg h20, if_neg h21]

set_option maxRecDepth 100000 in
set_option maxHeartbeats 3200000 in
theorem press_move (l : EL) (bv hv : Value) (h : List ByteArray) (kind byte : Int) (w : World) (hb0 : ES w bv l.before) (hh : SL w hv h) (hf : Fit l) (hn : h.length ≤ 9223372036854775807) (hs : ∀ s ∈ h, s.size ≤ maxLen) (h0 : pressedE l h h.length = 0) (h1 : keyE kind byte = 0) (h19 : ¬ kind = 19) (h20 : ¬ kind = 20) (h21 : ¬ kind = 21) (hm : movesB kind = true) :
    Calls Tryz.prog 14 #[elV2 l bv, hv, .agg #[.int .i64 kind, .int .i64 byte]] w (PressPost w (pressL l h kind byte)) := by
  have e19 : (kind == 19) = false := by rw [beq_eq_false_iff_ne]; exact h19
  have e20 : (kind == 20) = false := by rw [beq_eq_false_iff_ne]; exact h20
  have e21 : (kind == 21) = false := by rw [beq_eq_false_iff_ne]; exact h21
  have H19 := Lib.hid h19
  have H20 := Lib.hid h20
  have H21 := Lib.hid h21
  have HM := Lib.hid hm
  clear h19 h20 h21 hm
  have hP := Lib.hid (fun W (hb : Below w.heap.size w W) => pressed_any l bv h hv h.length W (hb0.keep hb) (hh.keep hb) hf hn hs)
  have hG := Lib.hid (good_of h0)
  rw [h0] at hP
  have hK := Lib.hid (fun W => rightKey_any kind byte W)
  rw [h1] at hK
  rw [pressL_ok h0 h1]
  have HL := Lib.hid hh
  have HC := Lib.hid (fun W (hb : Below w.heap.size w W) => cloneStates_any l.before bv W (hb0.keep hb) hf.2.2.2.1)
  obtain ⟨A, c, rfl, hc, hcells⟩ := hh
  have HB := Lib.hid (fun o1 o2 o3 => (((Below.refl _ w).alloc (Nat.le_refl _) o1).alloc (by simp) o2).alloc (by simp; omega) o3)
  clear h0 h1 hcells hf hs hb0
  obtain ⟨text, a, killed, killing, before, place, begun⟩ := l
  obtain ⟨a, rfl⟩ : ∃ n : Nat, a = (n : Int) := ⟨a.toNat, hG.out.at_⟩
  rw [show (⟨text, (a : Int), killed, killing, before, place, begun⟩ : EL).at'.toNat = a from Int.toNat_natCast a] at hG
  go_enter Tryz.func14, Tryz.ntmps14
  go_wp2_with fail
  have hbx := three_boxes w #[.string text, .int .i64 a, .string killed, .bool killing, bv, .int .i64 place, .string begun] #[.int .i64 kind, .int .i64 byte] zeroL 37 42 37
  obtain ⟨x1, x2, x3⟩ := hbx
  have X3 := Lib.hid x3
  have X2 := Lib.hid x2
  have X1 := Lib.hid x1
  clear x1 x2 x3
  refine (hP.out _ (HB.out _ _ _)).mono ?_
  rintro e w1 ⟨rfl, hb1⟩
  have HB1 := Lib.hid ((HB.out _ _ _).trans (hb1.mono (HB.out _ _ _).size))
  have K3 := Lib.hid (X3.out.below hb1 X3.out.lt)
  have K1 := Lib.hid (X1.out.below hb1 X1.out.lt)
  have k2 := X2.out.below hb1 X2.out.lt
  have K2 := Lib.hid k2
  obtain ⟨c2, z2⟩ := k2.cell
  clear hb1 k2 X3 X2 X1
  go_wp2_with fail
  refine (hK.out _).mono ?_
  rintro e w2 ⟨rfl, hb2⟩
  have HB2 := Lib.hid (HB1.out.trans (hb2.mono HB1.out.size))
  have K32 := Lib.hid (K3.out.below hb2 K3.out.lt)
  have K22 := Lib.hid (K2.out.below hb2 K2.out.lt)
  have k1 := K1.out.below hb2 K1.out.lt
  have K12 := Lib.hid k1
  obtain ⟨c1, z1⟩ := k1.cell
  have l1 : w.heap.size + 1 + 1 < w2.heap.size := K32.out.lt
  have l2 : w.heap.size + 1 < w2.heap.size := by omega
  have l3 : w.heap.size < w2.heap.size := by omega
  clear hb2 k1 c2 z2 K1 K2 K3
  go_wp2_with fail
  have hD := heap_alloc_new w2 (.cells #[.string text, .int .i64 a, .string killed, .bool killing, bv, .int .i64 place, .string begun, .slice A h.length c] 82)
  have HD := Lib.hid hD
  have K13 := Lib.hid ((Below.heap_alloc w2 (.cells #[.string text, .int .i64 a, .string killed, .bool killing, bv, .int .i64 place, .string begun, .slice A h.length c] 82) _ K12.out.lt).trans K12.out)
  have K23 := Lib.hid ((Below.heap_alloc w2 (.cells #[.string text, .int .i64 a, .string killed, .bool killing, bv, .int .i64 place, .string begun, .slice A h.length c] 82) _ K22.out.lt).trans K22.out)
  have K33 := Lib.hid ((Below.heap_alloc w2 (.cells #[.string text, .int .i64 a, .string killed, .bool killing, bv, .int .i64 place, .string begun, .slice A h.length c] 82) _ K32.out.lt).trans K32.out)
  have HB3 := Lib.hid (HB2.out.alloc HB2.out.size (.cells #[.string text, .int .i64 a, .string killed, .bool killing, bv, .int .i64 place, .string begun, .slice A h.length c] 82))
  have hz3 : w2.heap.size < (w2.alloc (.cells #[.string text, .int .i64 a, .string killed, .bool killing, bv, .int .i64 place, .string begun, .slice A h.length c] 82)).heap.size := by simp
  have HZ3 := Lib.hid hz3
  clear hD hz3 c1 z1
  generalize w2.alloc (.cells #[.string text, .int .i64 a, .string killed, .bool killing, bv, .int .i64 place, .string begun, .slice A h.length c] 82) = w3 at *
  refine (HC.out _ HB3.out).mono ?_
  rintro e w4 ⟨v4, rfl, ho4, hb4⟩
  have HB4 := Lib.hid (HB3.out.trans (hb4.mono HB3.out.size))
  have HS4 := Lib.hid hb4.size
  have hd4 := (hb4.block w2.heap.size HZ3.out).trans HD.out
  have hk4 := (hb4.block (w.heap.size + 1) (by have := HZ3.out; omega)).trans K23.out
  have hl4 := (hb4.block w.heap.size (by have := HZ3.out; omega)).trans K13.out
  have hr4 := (hb4.block (w.heap.size + 1 + 1) (by have := HZ3.out; omega)).trans K33.out
  obtain ⟨cd, zd⟩ := Box.cell (b := w2.heap.size) hd4
  obtain ⟨ck, zk⟩ := Blk.cell (t := 42) hk4
  have HD4 := Lib.hid hd4
  have HK4 := Lib.hid hk4
  have HL4 := Lib.hid hl4
  have HR4 := Lib.hid hr4
  obtain ⟨p4, q4, rfl⟩ := own_slice ho4
  have HO4 := Lib.hid ho4
  clear hd4 hk4 hl4 hr4 ho4 hb4 HD K13 K23 K33 HB3
  go_wp2_with fail
  have hW4 : Turned w4 w2.heap.size (edC ⟨text, a, killed, false⟩ (.slice p4 before.length q4) place begun (.slice A h.length c)) ((w4.setCell ⟨w2.heap.size, 4, none⟩ (.slice p4 before.length q4)).setCell ⟨w2.heap.size, 3, none⟩ (.bool false)) :=
    ((Turned.refl (show Box w4 w2.heap.size (edC ⟨text, a, killed, killing⟩ bv place begun (.slice A h.length c)) from HD4.out)).set 4 _).set 3 _
  have ho4' := ownsRow_setCell_below (ownsRow_setCell_below HO4.out (a := ⟨w2.heap.size, 4, none⟩) HZ3.out (.slice p4 before.length q4)) (a := ⟨w2.heap.size, 3, none⟩) HZ3.out (.bool false)
  generalize (w4.setCell ⟨w2.heap.size, 4, none⟩ (.slice p4 before.length q4)).setCell ⟨w2.heap.size, 3, none⟩ (.bool false) = W4 at *
  have HR4B := Lib.hid (show Blk W4 (w.heap.size + 1 + 1) 37 zeroL from Blk.turned (show Blk w4 (w.heap.size + 1 + 1) 37 zeroL from HR4.out) hW4 (by omega))
  have HB4B := Lib.hid (HB4.out.trans (hW4.below (by omega) HB4.out.size))
  have HK4B := Lib.hid (show Blk W4 (w.heap.size + 1) 42 #[.int .i64 kind, .int .i64 byte] from Blk.turned (show Blk w4 (w.heap.size + 1) 42 #[.int .i64 kind, .int .i64 byte] from HK4.out) hW4 (by omega))
  have HL4B := Lib.hid (show Blk W4 w.heap.size 37 #[.string text, .int .i64 a, .string killed, .bool killing, bv, .int .i64 place, .string begun] from Blk.turned (show Blk w4 w.heap.size 37 #[.string text, .int .i64 a, .string killed, .bool killing, bv, .int .i64 place, .string begun] from HL4.out) hW4 (by omega))
  have HS4B := Lib.hid (Nat.le_trans HS4.out hW4.1.size)
  have HBX := Lib.hid hW4.2
  have HO := Lib.hid ho4'
  clear hW4 ho4' cd zd ck zk HD4 HK4 HL4 HR4 HO4
  refine (move_any ⟨text, a, killed, false⟩ kind (.slice p4 before.length q4) (.slice A h.length c) place begun w2.heap.size W4 HBX.out hG.out.a_le hG.out.text).mono ?_
  rintro e w5 ⟨he, hT⟩
  rw [HM.out] at he
  subst he
  rw [HM.out, if_pos rfl] at hT
  have HA := Lib.hid (actD_move HM.out byte killing ⟨text, a, killed, false⟩)
  have HES5 := Lib.hid (ES.of_own (own_turned HO.out hT HZ3.out))
  have HFIN := Lib.hid (show keyL ⟨text, a, killed, killing, before, place, begun⟩ h kind byte = ⟨(actD kind 0 false ⟨text, a, killed, false⟩).text, (actD kind 0 false ⟨text, a, killed, false⟩).a, (actD kind 0 false ⟨text, a, killed, false⟩).killed, (actD kind 0 false ⟨text, a, killed, false⟩).killing, before, place, begun⟩ by
    rw [keyL_other H19.out H20.out H21.out]
    unfold changeL
    simp only [Int.toNat_natCast]
    rw [if_pos (.inl HA.out.2.1), ← HA.out.1])
  generalize actD kind 0 false ⟨text, a, killed, false⟩ = d' at *
  have HX5 := Lib.hid hT.2
  have HR5 := Lib.hid (show Blk w5 (w.heap.size + 1 + 1) 37 zeroL from HR4B.out.turned hT (by omega))
  have HB5 := Lib.hid (HB4B.out.trans (hT.below (by omega) HB4B.out.size))
  have HT5 := Lib.hid hT
  obtain ⟨cc5, zz5⟩ := hT.2.cell
  clear hT
  go_wp2_with fail
  refine (cloneStates_any _ _ _ HES5.out (by have := hG.out.len; simp at this; omega)).mono ?_
  rintro e w6 ⟨v6, rfl, ho6, hb6⟩
  have hd6 := (hb6.block w2.heap.size HX5.out.lt).trans HX5.out
  have hr6 := (hb6.block (w.heap.size + 1 + 1) HR5.out.lt).trans HR5.out
  have HB6 := Lib.hid (HB5.out.trans (hb6.mono HB5.out.size))
  have HZ6 := Lib.hid (And.intro HX5.out.lt HR5.out.lt)
  obtain ⟨cd6, zd6⟩ := Box.cell (b := w2.heap.size) hd6
  obtain ⟨cr6, zr6⟩ := Blk.cell (t := 37) hr6
  have HR6 := Lib.hid (show Blk w6 (w.heap.size + 1 + 1) 37 zeroL from hr6)
  obtain ⟨p6, q6, rfl⟩ := own_slice ho6
  have HO6 := Lib.hid ho6
  have hne : w.heap.size + 1 + 1 ≠ w2.heap.size := by omega
  clear hd6 hr6 ho6 hb6 cc5 zz5
  go_wp2
  refine press_end ((((((((HR6.out.far hne _).set_ 0 _).set_ 1 _).set_ 2 _).set_ 3 _).set_ 4 _).set_ 5 _).set_ 6 _) rfl rfl ?_
  rw [HFIN.out]
  refine ⟨.slice p6 _ q6, rfl, ES.of_own (ownsRow_setCell_below (ownsRow_setCell_below (ownsRow_setCell_below (ownsRow_setCell_below (ownsRow_setCell_below (ownsRow_setCell_below (ownsRow_setCell_below (ownsRow_setCell_below HO6.out HZ6.out.1 _) HZ6.out.2 _) HZ6.out.2 _) HZ6.out.2 _) HZ6.out.2 _) HZ6.out.2 _) HZ6.out.2 _) HZ6.out.2 _), (fun k hk => Nat.le_trans HB5.out.size (HO6.out.lt k hk).1), ?_⟩
  exact (((((((HB6.out.setCell (by show w.heap.size ≤ w2.heap.size; omega) _).setCell (by simp; omega) _).setCell (by simp; omega) _).setCell (by simp; omega) _).setCell (by simp; omega) _).setCell (by simp; omega) _).setCell (by simp; omega) _).setCell (by simp; omega) _

end Go.Proofs.YtokmiommhfbkeaaGreatDoor
