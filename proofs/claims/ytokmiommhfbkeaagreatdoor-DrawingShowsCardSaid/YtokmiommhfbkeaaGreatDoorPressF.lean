/- The program's Press at a good line and a key that changes the text. -/
import Derived.Test.YtokmiommhfbkeaaGreatDoorPressD
import Derived.Test.YtokmiommhfbkeaaGreatDoorHeldB
import Derived.BigQuiet
namespace Go.Proofs.YtokmiommhfbkeaaGreatDoor
open Go.RowKit

set_option maxRecDepth 100000 in
set_option maxHeartbeats 3200000 in
theorem press_note_c (l : EL) (bv hv : Value) (h : List ByteArray) (kind byte : Int) (w : World) (hb0 : ES w bv l.before) (hh : SL w hv h) (hf : Fit l) (hn : h.length ≤ 9223372036854775807) (hs : ∀ s ∈ h, s.size ≤ maxLen) (h0 : pressedE l h h.length = 0) (h1 : keyE kind byte = 0) (h19 : ¬ kind = 19) (h20 : ¬ kind = 20) (h21 : ¬ kind = 21) (hm : movesB kind = false) (hx : ¬ (actD kind byte l.killing ⟨l.text, l.at'.toNat, l.killed, false⟩).text = l.text) (hn1 : kind = 1 ∧ l.before = []) :
    Calls Tryz.prog 14 #[elV2 l bv, hv, .agg #[.int .i64 kind, .int .i64 byte]] w (PressPost w (pressL l h kind byte)) := by
  have e19 : (kind == 19) = false := by rw [beq_eq_false_iff_ne]; exact h19
  have e20 : (kind == 20) = false := by rw [beq_eq_false_iff_ne]; exact h20
  have e21 : (kind == 21) = false := by rw [beq_eq_false_iff_ne]; exact h21
  have H19 := Lib.hid h19
  have H20 := Lib.hid h20
  have H21 := Lib.hid h21
  have HM := Lib.hid hm
  have HKE := Lib.hid h1
  clear h19 h20 h21 hm
  have HX00 := Lib.hid hx
  clear hx
  have HN1 := Lib.hid hn1
  clear hn1
  have hP := Lib.hid (fun W (hb : Below w.heap.size w W) => pressed_any l bv h hv h.length W (hb0.keep hb) (hh.keep hb) hf hn hs)
  have hG := Lib.hid (good_of h0)
  rw [h0] at hP
  have hK := Lib.hid (fun W => rightKey_any kind byte W)
  rw [h1] at hK
  rw [pressL_ok h0 h1]
  have HL := Lib.hid hh
  have HC := Lib.hid (fun W (hb : Below w.heap.size w W) => cloneStates_any l.before bv W (hb0.keep hb) hf.2.2.2.1)
  obtain ⟨A, c, rfl, hc, hcells⟩ := hh
  have HB := Lib.hid (fun o1 o2 o3 => (((Below.refl _ w).alloc (Nat.le_refl _) o1).alloc (by simp) o2).alloc (by simp; omega) o3)
  clear h0 h1 hcells hf hs hb0
  obtain ⟨text, a, killed, killing, before, place, begun⟩ := l
  obtain ⟨a, rfl⟩ : ∃ n : Nat, a = (n : Int) := ⟨a.toNat, hG.out.at_⟩
  rw [show (⟨text, (a : Int), killed, killing, before, place, begun⟩ : EL).at'.toNat = a from Int.toNat_natCast a] at hG
  go_enter Tryz.func14, Tryz.ntmps14
  go_wp2_with fail
  have hbx := three_boxes w #[.string text, .int .i64 a, .string killed, .bool killing, bv, .int .i64 place, .string begun] #[.int .i64 kind, .int .i64 byte] zeroL 37 42 37
  obtain ⟨x1, x2, x3⟩ := hbx
  have X3 := Lib.hid x3
  have X2 := Lib.hid x2
  have X1 := Lib.hid x1
  clear x1 x2 x3
  refine (hP.out _ (HB.out _ _ _)).mono ?_
  rintro e w1 ⟨rfl, hb1⟩
  have HB1 := Lib.hid ((HB.out _ _ _).trans (hb1.mono (HB.out _ _ _).size))
  have K3 := Lib.hid (X3.out.below hb1 X3.out.lt)
  have K1 := Lib.hid (X1.out.below hb1 X1.out.lt)
  have k2 := X2.out.below hb1 X2.out.lt
  have K2 := Lib.hid k2
  obtain ⟨c2, z2⟩ := k2.cell
  clear hb1 k2 X3 X2 X1
  go_wp2_with fail
  refine (hK.out _).mono ?_
  rintro e w2 ⟨rfl, hb2⟩
  have HB2 := Lib.hid (HB1.out.trans (hb2.mono HB1.out.size))
  have K32 := Lib.hid (K3.out.below hb2 K3.out.lt)
  have K22 := Lib.hid (K2.out.below hb2 K2.out.lt)
  have k1 := K1.out.below hb2 K1.out.lt
  have K12 := Lib.hid k1
  obtain ⟨c1, z1⟩ := k1.cell
  have l1 : w.heap.size + 1 + 1 < w2.heap.size := K32.out.lt
  have l2 : w.heap.size + 1 < w2.heap.size := by omega
  have l3 : w.heap.size < w2.heap.size := by omega
  clear hb2 k1 c2 z2 K1 K2 K3
  go_wp2_with fail
  have hD := heap_alloc_new w2 (.cells #[.string text, .int .i64 a, .string killed, .bool killing, bv, .int .i64 place, .string begun, .slice A h.length c] 82)
  have HD := Lib.hid hD
  have K13 := Lib.hid ((Below.heap_alloc w2 (.cells #[.string text, .int .i64 a, .string killed, .bool killing, bv, .int .i64 place, .string begun, .slice A h.length c] 82) _ K12.out.lt).trans K12.out)
  have K23 := Lib.hid ((Below.heap_alloc w2 (.cells #[.string text, .int .i64 a, .string killed, .bool killing, bv, .int .i64 place, .string begun, .slice A h.length c] 82) _ K22.out.lt).trans K22.out)
  have K33 := Lib.hid ((Below.heap_alloc w2 (.cells #[.string text, .int .i64 a, .string killed, .bool killing, bv, .int .i64 place, .string begun, .slice A h.length c] 82) _ K32.out.lt).trans K32.out)
  have HB3 := Lib.hid (HB2.out.alloc HB2.out.size (.cells #[.string text, .int .i64 a, .string killed, .bool killing, bv, .int .i64 place, .string begun, .slice A h.length c] 82))
  have hz3 : w2.heap.size < (w2.alloc (.cells #[.string text, .int .i64 a, .string killed, .bool killing, bv, .int .i64 place, .string begun, .slice A h.length c] 82)).heap.size := by simp
  have HZ3 := Lib.hid hz3
  clear hD hz3 c1 z1
  generalize w2.alloc (.cells #[.string text, .int .i64 a, .string killed, .bool killing, bv, .int .i64 place, .string begun, .slice A h.length c] 82) = w3 at *
  refine (HC.out _ HB3.out).mono ?_
  rintro e w4 ⟨v4, rfl, ho4, hb4⟩
  have HB4 := Lib.hid (HB3.out.trans (hb4.mono HB3.out.size))
  have HS4 := Lib.hid hb4.size
  have hd4 := (hb4.block w2.heap.size HZ3.out).trans HD.out
  have hk4 := (hb4.block (w.heap.size + 1) (by have := HZ3.out; omega)).trans K23.out
  have hl4 := (hb4.block w.heap.size (by have := HZ3.out; omega)).trans K13.out
  have hr4 := (hb4.block (w.heap.size + 1 + 1) (by have := HZ3.out; omega)).trans K33.out
  obtain ⟨cd, zd⟩ := Box.cell (b := w2.heap.size) hd4
  obtain ⟨ck, zk⟩ := Blk.cell (t := 42) hk4
  have HD4 := Lib.hid hd4
  have HK4 := Lib.hid hk4
  have HL4 := Lib.hid hl4
  have HR4 := Lib.hid hr4
  obtain ⟨p4, q4, rfl⟩ := own_slice ho4
  have HO4 := Lib.hid ho4
  clear hd4 hk4 hl4 hr4 ho4 hb4 HD K13 K23 K33 HB3
  go_wp2_with fail
  have hW4 : Turned w4 w2.heap.size (edC ⟨text, a, killed, false⟩ (.slice p4 before.length q4) place begun (.slice A h.length c)) ((w4.setCell ⟨w2.heap.size, 4, none⟩ (.slice p4 before.length q4)).setCell ⟨w2.heap.size, 3, none⟩ (.bool false)) :=
    ((Turned.refl (show Box w4 w2.heap.size (edC ⟨text, a, killed, killing⟩ bv place begun (.slice A h.length c)) from HD4.out)).set 4 _).set 3 _
  have ho4' := ownsRow_setCell_below (ownsRow_setCell_below HO4.out (a := ⟨w2.heap.size, 4, none⟩) HZ3.out (.slice p4 before.length q4)) (a := ⟨w2.heap.size, 3, none⟩) HZ3.out (.bool false)
  generalize (w4.setCell ⟨w2.heap.size, 4, none⟩ (.slice p4 before.length q4)).setCell ⟨w2.heap.size, 3, none⟩ (.bool false) = W4 at *
  have HR4B := Lib.hid (show Blk W4 (w.heap.size + 1 + 1) 37 zeroL from Blk.turned (show Blk w4 (w.heap.size + 1 + 1) 37 zeroL from HR4.out) hW4 (by omega))
  have HB4B := Lib.hid (HB4.out.trans (hW4.below (by omega) HB4.out.size))
  have HK4B := Lib.hid (show Blk W4 (w.heap.size + 1) 42 #[.int .i64 kind, .int .i64 byte] from Blk.turned (show Blk w4 (w.heap.size + 1) 42 #[.int .i64 kind, .int .i64 byte] from HK4.out) hW4 (by omega))
  have HL4B := Lib.hid (show Blk W4 w.heap.size 37 #[.string text, .int .i64 a, .string killed, .bool killing, bv, .int .i64 place, .string begun] from Blk.turned (show Blk w4 w.heap.size 37 #[.string text, .int .i64 a, .string killed, .bool killing, bv, .int .i64 place, .string begun] from HL4.out) hW4 (by omega))
  have HS4B := Lib.hid (Nat.le_trans HS4.out hW4.1.size)
  have HBX4B := Lib.hid hW4.2
  have HO4B := Lib.hid ho4'
  clear hW4 ho4' cd zd ck zk HD4 HK4 HL4 HR4 HO4
  refine (move_any ⟨text, a, killed, false⟩ kind (.slice p4 before.length q4) (.slice A h.length c) place begun w2.heap.size W4 HBX4B.out hG.out.a_le hG.out.text).mono ?_
  rintro e w5 ⟨he, hT⟩
  rw [HM.out] at he
  subst he
  rw [HM.out, if_neg (by simp)] at hT
  have HBX5 := Lib.hid hT.2
  have HR5 := Lib.hid (show Blk w5 (w.heap.size + 1 + 1) 37 zeroL from HR4B.out.turned hT (by omega))
  have HK5 := Lib.hid (show Blk w5 (w.heap.size + 1) 42 #[.int .i64 kind, .int .i64 byte] from HK4B.out.turned hT (by omega))
  have HL5 := Lib.hid (show Blk w5 w.heap.size 37 #[.string text, .int .i64 a, .string killed, .bool killing, bv, .int .i64 place, .string begun] from HL4B.out.turned hT (by omega))
  have HB5 := Lib.hid (HB4B.out.trans (hT.below (by omega) HB4B.out.size))
  have HS5 := Lib.hid (Nat.le_trans HS4B.out hT.1.size)
  have HO5 := Lib.hid (own_turned HO4B.out hT HZ3.out)
  clear hT
  obtain ⟨ck5, zk5⟩ := HK5.out.cell
  obtain ⟨cl5, zl5⟩ := HL5.out.cell
  go_wp2_with fail
  refine (change_any ⟨text, a, killed, false⟩ kind byte killing (.slice p4 before.length q4) (.slice A h.length c) place begun w2.heap.size w5 HBX5.out hG.out.a_le hG.out.text hG.out.killed HKE.out HM.out H19.out H20.out H21.out).mono ?_
  rintro e w6 ⟨rfl, hT⟩
  clear ck5 zk5 cl5 zl5
  have HBX6 := Lib.hid hT.2
  have HR6 := Lib.hid (show Blk w6 (w.heap.size + 1 + 1) 37 zeroL from HR5.out.turned hT (by omega))
  have HK6 := Lib.hid (show Blk w6 (w.heap.size + 1) 42 #[.int .i64 kind, .int .i64 byte] from HK5.out.turned hT (by omega))
  have HL6 := Lib.hid (show Blk w6 w.heap.size 37 #[.string text, .int .i64 a, .string killed, .bool killing, bv, .int .i64 place, .string begun] from HL5.out.turned hT (by omega))
  have HB6 := Lib.hid (HB5.out.trans (hT.below (by omega) HB5.out.size))
  have HS6 := Lib.hid (Nat.le_trans HS5.out hT.1.size)
  have HO6 := Lib.hid (own_turned HO5.out hT HZ3.out)
  clear hT
  obtain ⟨ck6, zk6⟩ := HK6.out.cell
  obtain ⟨cl6, zl6⟩ := HL6.out.cell
  obtain ⟨cd6, zd6⟩ := HBX6.out.cell
  have HFIN0 := Lib.hid (show keyL ⟨text, a, killed, killing, before, place, begun⟩ h kind byte = changeL ⟨text, a, killed, killing, before, place, begun⟩ kind byte from keyL_other H19.out H20.out H21.out _ _ _)
  have HCH := Lib.hid (show changeL ⟨text, a, killed, killing, before, place, begun⟩ kind byte = ⟨(actD kind byte killing ⟨text, a, killed, false⟩).text, (actD kind byte killing ⟨text, a, killed, false⟩).a, (actD kind byte killing ⟨text, a, killed, false⟩).killed, (actD kind byte killing ⟨text, a, killed, false⟩).killing, if (actD kind byte killing ⟨text, a, killed, false⟩).text = text ∨ (kind = 1 ∧ goesL ⟨text, a, killed, killing, before, place, begun⟩ = true) then before else noted ⟨text, a, killed, killing, before, place, begun⟩, place, begun⟩ from rfl)
  have hx : ¬ (actD kind byte killing ⟨text, a, killed, false⟩).text = text := HX00.out
  have HX0 := Lib.hid hx
  clear hx
  generalize actD kind byte killing ⟨text, a, killed, false⟩ = d' at *
  obtain ⟨t6, a6, k6, g6⟩ := d'
  dsimp only at HX0 HCH
  have hxs : (t6.toList == text.toList) = false := by
    rw [beq_eq_false_iff_ne, ByteArray.toList_eq, ByteArray.toList_eq]; intro e; exact HX0.out (ByteArray.ext (Array.ext' e))
  have HFIN := Lib.hid (show keyL ⟨text, a, killed, killing, before, place, begun⟩ h kind byte = ⟨t6, a6, k6, g6, noted ⟨text, a, killed, killing, before, place, begun⟩, place, begun⟩ by
    rw [HFIN0.out, HCH.out, if_neg (by intro hh; rcases hh with hh | hh; exact HX0.out hh; have h2 := hh.2; simp [goesL, HN1.out.2] at h2)])
  have e1 : (kind == 1) = true := by rw [beq_iff_eq]; exact HN1.out.1
  have hd0 : decide ((0 : Int) < (before.length : Int)) = false := by rw [show before = [] from HN1.out.2]; rfl
  have hd1 : decide (0 < before.length) = false := by rw [show before = [] from HN1.out.2]; rfl
  have hd2 : before.isEmpty = true := by rw [show before = [] from HN1.out.2]; rfl
  clear HX0
  go_wp2_with fail
  go_quiet (fail)
  go_wp2_with fail
  have HBX7 := Lib.hid (show Box (w6.drewN nq) w2.heap.size (edC ⟨t6, a6, k6, g6⟩ (.slice p4 before.length q4) place begun (.slice A h.length c)) from HBX6.out)
  have HR7 := Lib.hid (show Blk (w6.drewN nq) (w.heap.size + 1 + 1) 37 zeroL from HR6.out)
  have HL7 := Lib.hid (show Blk (w6.drewN nq) w.heap.size 37 #[.string text, .int .i64 a, .string killed, .bool killing, bv, .int .i64 place, .string begun] from HL6.out)
  have HB7 := Lib.hid (below_drewN HB6.out nq)
  have HO7 := Lib.hid (show (w6.drewN nq).ownsRow w3.heap.size 85 2 (.slice p4 before.length q4) before.length (esC before) from HO6.out)
  have HS7 := Lib.hid (show w3.heap.size ≤ (w6.drewN nq).heap.size from HS6.out)
  clear ck6 zk6 cl6 zl6 cd6 zd6
  generalize w6.drewN nq = w7 at *
  have nR := buf_ne HO7.out HR7.out (by decide)
  have hw37 := Lib.hid (show w3.heap.size ≤ w7.heap.size from HS7.out)
  have nD := buf_ne HO7.out HBX7.out (by decide)
  have nL := buf_ne HO7.out HL7.out (by decide)
  have DD : ∀ W, (Two w7.drew (Value.slice p4 before.length q4).ownBlock (Value.slice p4 before.length q4).ownBlock) W → (∀ j, W.cell? ⟨w2.heap.size, j, none⟩ = (edC ⟨t6, a6, k6, g6⟩ (.slice p4 before.length q4) place begun (.slice A h.length c))[j]?) ∧ (∀ j, W.frozen? ⟨w2.heap.size, j, none⟩ = false) := fun W hW =>
    Box.cell ((hW.block _ HBX7.out.lt nD nD).trans HBX7.out)
  have LL : ∀ W, (Two w7.drew (Value.slice p4 before.length q4).ownBlock (Value.slice p4 before.length q4).ownBlock) W → (∀ j, W.cell? ⟨w.heap.size, j, none⟩ = (#[.string text, .int .i64 a, .string killed, .bool killing, bv, .int .i64 place, .string begun] : Array Value)[j]?) ∧ (∀ j, W.frozen? ⟨w.heap.size, j, none⟩ = false) := fun W hW =>
    Blk.cell ((hW.block _ HL7.out.lt nL nL).trans HL7.out)
  refine wp_region_tail 13 (Two w7.drew (Value.slice p4 before.length q4).ownBlock (Value.slice p4 before.length q4).ownBlock) (by kernel_rfl) (by decide) ?_
  refine wpAnyT_take 99 0 (v := (.pointer (some ⟨w2.heap.size, 0, none⟩))) (by kernel_rfl) rfl (by kernel_rfl) (fun _ _ _ h => h) (Or.inl ⟨rfl, fun W hW => by go_simp⟩) (Two.refl _ _ _) ?_
  refine wpAnyT_take 99 1 (v := (.pointer (some ⟨w2.heap.size, 0, none⟩))) (by kernel_rfl) rfl (by kernel_rfl) (fun _ _ _ h => h) (Or.inl ⟨rfl, fun W hW => by go_simp⟩) (Two.refl _ _ _) ?_
  refine wpAnyT_take 99 2 (v := (.pointer (some ⟨w2.heap.size, 0, none⟩))) (by kernel_rfl) rfl (by kernel_rfl) (fun _ _ _ h => h) (Or.inl ⟨rfl, fun W hW => by go_simp⟩) (Two.refl _ _ _) ?_
  refine wpAnyT_take 99 3 (v := (.pointer (some ⟨w2.heap.size, 0, none⟩))) (by kernel_rfl) rfl (by kernel_rfl) (fun _ _ _ h => h) (Or.inl ⟨rfl, fun W hW => by go_simp⟩) (Two.refl _ _ _) ?_
  refine wpAnyT_take 99 4 (v := (.pointer (some ⟨w2.heap.size, 4, none⟩))) (by kernel_rfl) rfl (by kernel_rfl) (fun _ _ _ h => h) (Or.inl ⟨rfl, fun W hW => by go_simp⟩) (Two.refl _ _ _) ?_
  refine wpAnyT_take 99 5 (v := (.slice p4 before.length q4)) (by kernel_rfl) rfl (by kernel_rfl) (fun _ _ _ h => h) (Or.inl ⟨rfl, fun W hW => by have := (DD W hW).1 4; go_simp⟩) (Two.refl _ _ _) ?_
  refine wpAnyT_take 99 6 (v := (.pointer (some ⟨w.heap.size, 0, none⟩))) (by kernel_rfl) rfl (by kernel_rfl) (fun _ _ _ h => h) (Or.inl ⟨rfl, fun W hW => by go_simp⟩) (Two.refl _ _ _) ?_
  refine wpAnyT_take 99 7 (v := (.string text)) (by kernel_rfl) rfl (by kernel_rfl) (fun _ _ _ h => h) (Or.inl ⟨rfl, fun W hW => by have := (LL W hW).1 0; go_simp⟩) (Two.refl _ _ _) ?_
  refine wpAnyT_take 99 8 (v := (.pointer (some ⟨w.heap.size, 1, none⟩))) (by kernel_rfl) rfl (by kernel_rfl) (fun _ _ _ h => h) (Or.inl ⟨rfl, fun W hW => by go_simp⟩) (Two.refl _ _ _) ?_
  refine wpAnyT_take 99 9 (v := (.int .i64 a)) (by kernel_rfl) rfl (by kernel_rfl) (fun _ _ _ h => h) (Or.inl ⟨rfl, fun W hW => by have := (LL W hW).1 1; go_simp⟩) (Two.refl _ _ _) ?_
  refine wpAnyT_take 99 10 (v := (.agg #[.string text, .int .i64 a])) (by kernel_rfl) rfl (by kernel_rfl) (fun _ _ _ h => h) (Or.inl ⟨rfl, fun W hW => by go_simp⟩) (Two.refl _ _ _) ?_
  obtain ⟨i0, hi, hz0, hz1, hz2⟩ := info_parts stateInfo
  have hz37 : w3.heap.size ≤ w7.heap.size := hw37.out
  have hl1 : before.length ≤ 100 := hG.out.len
  refine one_append (ib := 11) (ts := 112) (tx := 117) (tb := 118) (ta := 119) (T := 35) (e := 85) (size := 2) (bytes := 24) (y := .agg #[.string text, .int .i64 a]) (ys := #[.string text, .int .i64 a]) rfl rfl rfl rfl rfl rfl rfl rfl Tryz.underlying35 hi hz0 hz1 hz2 rfl (by decide) (by decide) ?hf rfl ?h1 (by kernel_rfl) (by kernel_rfl) (by decide) (by kernel_rfl) (by decide) ?htb ?q1 ?q2 (show w7.drew.ownsRow w3.heap.size 85 2 (.slice p4 before.length q4) before.length (esC before) from HO7.out) hz37 (by unfold maxLen; omega) (by omega) ?_
  case hf => exact fill2 _ _ _
  case h1 => intro u hu; simp at hu; rcases hu with rfl | rfl <;> rfl
  case htb => simp [Act.put]
  case q1 => simp [Act.eval, Act.put]
  case q2 => simp [Act.eval, Act.put]
  intro u v' w8 hT g1 _
  have hd8 := (hT.block _ HBX7.out.lt nD nD).trans HBX7.out
  have hr8 := (hT.block _ HR7.out.lt nR nR).trans HR7.out
  have HB8 := Lib.hid (HB7.out.trans (two_below' hT HO7.out (by have := HZ3.out; omega) HB7.out.size))
  have HR8 := Lib.hid (show Blk w8 (w.heap.size + 1 + 1) 37 zeroL from hr8)
  have HBX8 := Lib.hid (show Box w8 w2.heap.size (edC ⟨t6, a6, k6, g6⟩ (.slice p4 before.length q4) place begun (.slice A h.length c)) from hd8)
  obtain ⟨cd8, zd8⟩ := HBX8.out.cell
  obtain ⟨b8, q8, rfl, hcc8⟩ := own_slice1 g1 (by omega)
  have HO8 := Lib.hid (show w8.ownsRow w3.heap.size 85 2 (.slice (some ⟨b8, 0, none⟩) (before.length + 1) q8) (before.length + 1) (esC (before ++ [(text, (a : Int))])) by rw [esC_app]; exact g1)
  clear DD LL nD nL nR hT hd8 hr8 g1 hi hz0 hz1 hz2 hz37
  simp only [List.drop_succ_cons, List.drop_zero]
  by_cases hfull : before.length = 100
  · have e100 : ((before.length : Int) == 100) = true := by rw [hfull]; rfl
    have hnt := Lib.hid (show noted ⟨text, a, killed, killing, before, place, begun⟩ = (before ++ [(text, (a : Int))]).drop 1 by
      unfold noted; rw [hfull])
    rw [hnt.out] at HFIN
    have hll : (before ++ [(text, (a : Int))]).length = 101 := by simp [hfull]
    have hq8 : ¬ q8 = 1 := by omega
    have HLL := Lib.hid hll
    have HF := Lib.hid hfull
    clear hll
    go_wp2_with fail
    have HES9 := Lib.hid (show ES ((w8.setCell ⟨w2.heap.size, 4, none⟩ (.slice (some ⟨b8, 0, none⟩) 101 q8)).setCell ⟨w2.heap.size, 4, none⟩ (.slice (some ⟨b8, 2, none⟩) 100 (q8 - 1))) (.slice (some ⟨b8, 2, none⟩) 100 (q8 - 1)) ((before ++ [(text, (a : Int))]).drop 1) by
      have h1 := ES.of_own (ownsRow_setCell_below (ownsRow_setCell_below HO8.out (a := ⟨w2.heap.size, 4, none⟩) HZ3.out (.slice (some ⟨b8, 0, none⟩) 101 q8)) (a := ⟨w2.heap.size, 4, none⟩) HZ3.out (.slice (some ⟨b8, 2, none⟩) 100 (q8 - 1)))
      have h2 := ES.cut1 (off := 0) h1 (by rw [HLL.out, HF.out])
      rw [HF.out] at h2
      exact h2)
    have HBX9 := Lib.hid (show Box ((w8.setCell ⟨w2.heap.size, 4, none⟩ (.slice (some ⟨b8, 0, none⟩) 101 q8)).setCell ⟨w2.heap.size, 4, none⟩ (.slice (some ⟨b8, 2, none⟩) 100 (q8 - 1))) w2.heap.size (edC ⟨t6, a6, k6, g6⟩ (.slice (some ⟨b8, 2, none⟩) 100 (q8 - 1)) place begun (.slice A h.length c)) from ((((Turned.refl HBX8.out).set 4 _).set 4 _).2))
    have HR9 := Lib.hid ((HR8.out.far (p := ⟨w2.heap.size, 4, none⟩) (by show w.heap.size + 1 + 1 ≠ w2.heap.size; omega) (.slice (some ⟨b8, 0, none⟩) 101 q8)).far (p := ⟨w2.heap.size, 4, none⟩) (by show w.heap.size + 1 + 1 ≠ w2.heap.size; omega) (.slice (some ⟨b8, 2, none⟩) 100 (q8 - 1)))
    have HB9 := Lib.hid ((HB8.out.setCell (p := ⟨w2.heap.size, 4, none⟩) (by show w.heap.size ≤ w2.heap.size; omega) (.slice (some ⟨b8, 0, none⟩) 101 q8)).setCell (p := ⟨w2.heap.size, 4, none⟩) (by show w.heap.size ≤ w2.heap.size; omega) (.slice (some ⟨b8, 2, none⟩) 100 (q8 - 1)))
    clear cd8 zd8
    generalize (w8.setCell ⟨w2.heap.size, 4, none⟩ (.slice (some ⟨b8, 0, none⟩) 101 q8)).setCell ⟨w2.heap.size, 4, none⟩ (.slice (some ⟨b8, 2, none⟩) 100 (q8 - 1)) = w9 at *
    have HL9 := Lib.hid (show ((before ++ [(text, (a : Int))]).drop 1).length = before.length by rw [List.length_drop, HLL.out, HF.out])
    have hln : ((before ++ [(text, (a : Int))]).drop 1).length ≤ 5864062014805 := by rw [List.length_drop, HLL.out]; omega
    clear e100 hfull hq8
    refine (cloneStates_any _ _ w9 HES9.out (by exact hln)).mono ?_
    rintro e w6 ⟨v6, rfl, ho6, hb6⟩
    rw [HL9.out] at ho6
    have hd6 := (hb6.block w2.heap.size HBX9.out.lt).trans HBX9.out
    have hr6 := (hb6.block (w.heap.size + 1 + 1) HR9.out.lt).trans HR9.out
    have HB6 := Lib.hid (HB9.out.trans (hb6.mono HB9.out.size))
    have HZ6 := Lib.hid (And.intro HBX9.out.lt HR9.out.lt)
    obtain ⟨cd6, zd6⟩ := Box.cell (b := w2.heap.size) hd6
    obtain ⟨cr6, zr6⟩ := Blk.cell (t := 37) hr6
    have HR6 := Lib.hid (show Blk w6 (w.heap.size + 1 + 1) 37 zeroL from hr6)
    obtain ⟨p6, q6, rfl⟩ := own_slice ho6
    have HO6 := Lib.hid ho6
    have hne : w.heap.size + 1 + 1 ≠ w2.heap.size := by omega
    clear hd6 hr6 ho6 hb6
    go_wp2
    refine press_end ((((((((HR6.out.far hne _).set_ 0 _).set_ 1 _).set_ 2 _).set_ 3 _).set_ 4 _).set_ 5 _).set_ 6 _) rfl rfl ?_
    rw [HFIN.out]
    refine ⟨.slice p6 _ q6, rfl, ES.of_own (ownsRow_setCell_below (ownsRow_setCell_below (ownsRow_setCell_below (ownsRow_setCell_below (ownsRow_setCell_below (ownsRow_setCell_below (ownsRow_setCell_below (ownsRow_setCell_below HO6.out HZ6.out.1 _) HZ6.out.2 _) HZ6.out.2 _) HZ6.out.2 _) HZ6.out.2 _) HZ6.out.2 _) HZ6.out.2 _) HZ6.out.2 _), (fun k hk => Nat.le_trans HB9.out.size (HO6.out.lt k hk).1), ?_⟩
    exact (((((((HB6.out.setCell (by show w.heap.size ≤ w2.heap.size; omega) _).setCell (by simp; omega) _).setCell (by simp; omega) _).setCell (by simp; omega) _).setCell (by simp; omega) _).setCell (by simp; omega) _).setCell (by simp; omega) _).setCell (by simp; omega) _
  · have e100 : ((before.length : Int) == 100) = false := by rw [beq_eq_false_iff_ne]; omega
    have hnt := Lib.hid (show noted ⟨text, a, killed, killing, before, place, begun⟩ = before ++ [(text, (a : Int))] by
      unfold noted; rw [show before.length + 1 - 100 = 0 by omega]; rfl)
    rw [hnt.out] at HFIN
    have hll : (before ++ [(text, (a : Int))]).length = before.length + 1 := by simp
    have HLL := Lib.hid hll
    clear hll
    go_wp2_with fail
    have HES9 := Lib.hid (show ES (w8.setCell ⟨w2.heap.size, 4, none⟩ (.slice (some ⟨b8, 0, none⟩) (before.length + 1) q8)) (.slice (some ⟨b8, 0, none⟩) (before.length + 1) q8) (before ++ [(text, (a : Int))]) from
      ES.of_own (ownsRow_setCell_below HO8.out (a := ⟨w2.heap.size, 4, none⟩) HZ3.out (.slice (some ⟨b8, 0, none⟩) (before.length + 1) q8)))
    have HBX9 := Lib.hid (show Box (w8.setCell ⟨w2.heap.size, 4, none⟩ (.slice (some ⟨b8, 0, none⟩) (before.length + 1) q8)) w2.heap.size (edC ⟨t6, a6, k6, g6⟩ (.slice (some ⟨b8, 0, none⟩) (before.length + 1) q8) place begun (.slice A h.length c)) from ((Turned.refl HBX8.out).set 4 _).2)
    have HR9 := Lib.hid (HR8.out.far (p := ⟨w2.heap.size, 4, none⟩) (by show w.heap.size + 1 + 1 ≠ w2.heap.size; omega) (.slice (some ⟨b8, 0, none⟩) (before.length + 1) q8))
    have HB9 := Lib.hid (HB8.out.setCell (p := ⟨w2.heap.size, 4, none⟩) (by show w.heap.size ≤ w2.heap.size; omega) (.slice (some ⟨b8, 0, none⟩) (before.length + 1) q8))
    clear cd8 zd8
    generalize w8.setCell ⟨w2.heap.size, 4, none⟩ (.slice (some ⟨b8, 0, none⟩) (before.length + 1) q8) = w9 at *
    have HL9 := Lib.hid HLL.out
    have hln : (before ++ [(text, (a : Int))]).length ≤ 5864062014805 := by rw [HLL.out]; omega
    clear e100 hfull
    refine (cloneStates_any _ _ w9 HES9.out (by exact hln)).mono ?_
    rintro e w6 ⟨v6, rfl, ho6, hb6⟩
    rw [HL9.out] at ho6
    have hd6 := (hb6.block w2.heap.size HBX9.out.lt).trans HBX9.out
    have hr6 := (hb6.block (w.heap.size + 1 + 1) HR9.out.lt).trans HR9.out
    have HB6 := Lib.hid (HB9.out.trans (hb6.mono HB9.out.size))
    have HZ6 := Lib.hid (And.intro HBX9.out.lt HR9.out.lt)
    obtain ⟨cd6, zd6⟩ := Box.cell (b := w2.heap.size) hd6
    obtain ⟨cr6, zr6⟩ := Blk.cell (t := 37) hr6
    have HR6 := Lib.hid (show Blk w6 (w.heap.size + 1 + 1) 37 zeroL from hr6)
    obtain ⟨p6, q6, rfl⟩ := own_slice ho6
    have HO6 := Lib.hid ho6
    have hne : w.heap.size + 1 + 1 ≠ w2.heap.size := by omega
    clear hd6 hr6 ho6 hb6
    go_wp2
    refine press_end ((((((((HR6.out.far hne _).set_ 0 _).set_ 1 _).set_ 2 _).set_ 3 _).set_ 4 _).set_ 5 _).set_ 6 _) rfl rfl ?_
    rw [HFIN.out]
    refine ⟨.slice p6 _ q6, rfl, ES.of_own (ownsRow_setCell_below (ownsRow_setCell_below (ownsRow_setCell_below (ownsRow_setCell_below (ownsRow_setCell_below (ownsRow_setCell_below (ownsRow_setCell_below (ownsRow_setCell_below HO6.out HZ6.out.1 _) HZ6.out.2 _) HZ6.out.2 _) HZ6.out.2 _) HZ6.out.2 _) HZ6.out.2 _) HZ6.out.2 _) HZ6.out.2 _), (fun k hk => Nat.le_trans HB9.out.size (HO6.out.lt k hk).1), ?_⟩
    exact (((((((HB6.out.setCell (by show w.heap.size ≤ w2.heap.size; omega) _).setCell (by simp; omega) _).setCell (by simp; omega) _).setCell (by simp; omega) _).setCell (by simp; omega) _).setCell (by simp; omega) _).setCell (by simp; omega) _).setCell (by simp; omega) _

end Go.Proofs.YtokmiommhfbkeaaGreatDoor
