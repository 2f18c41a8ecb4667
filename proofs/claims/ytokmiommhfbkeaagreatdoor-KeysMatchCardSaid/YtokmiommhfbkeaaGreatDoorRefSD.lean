/- The reference's Press gives the line that pressL tells: keys that move or change. -/
import Derived.Test.YtokmiommhfbkeaaGreatDoorRefS
namespace Go.Proofs.YtokmiommhfbkeaaGreatDoor
open Go.RowKit

set_option maxRecDepth 100000 in
set_option maxHeartbeats 3200000 in
theorem rPress_act_1s_goes (l : EL) (bv hv : Value) (h : List ByteArray) (kind byte : Int) (w : World) (hb0 : ES w bv l.before) (hh : SL w hv h) (hf : Fit l) (hn : h.length ≤ 9223372036854775807) (hs : ∀ s ∈ h, s.size ≤ maxLen) (h0 : pressedE l h h.length = 0) (h1 : keyE kind byte = 0) (hk : kind = 1 ∧ ¬ byte < 32 ∧ ¬ byte = 127 ∧ ¬ 255 < byte) (pre : List (ByteArray × Int)) (s : ByteArray) (k m : Nat) (he : l.before = pre ++ [(s, (k : Int))]) (hm : pre.length = m) (hx : ¬ (actD kind byte l.killing ⟨l.text, l.at'.toNat, l.killed, false⟩).text = l.text) (hgo : goesB (s, (k : Int)) l.text l.at'.toNat = true) :
    Calls Tryz.prog 16 #[elV2 l bv, hv, .agg #[.int .i64 kind, .int .i64 byte]] w (PressPost w (pressL l h kind byte)) := by
  obtain ⟨rfl, g1, n127, g2⟩ := hk
  have qn127127 : (byte == 127) = false := by rw [beq_eq_false_iff_ne]; exact n127
  have rn127127 : (byte != 127) = true := by rw [bne_iff_ne]; exact n127
  have H19 := Lib.hid (show ¬ (1 : Int) = 19 by decide)
  have H20 := Lib.hid (show ¬ (1 : Int) = 20 by decide)
  have H21 := Lib.hid (show ¬ (1 : Int) = 21 by decide)
  clear n127
  have hP := Lib.hid (fun W (hb : Below w.heap.size w W) => editForm_any l bv hv h W (hb0.keep hb) (hh.keep hb) hf hn hs)
  have hG := Lib.hid (good_of h0)
  rw [h0] at hP
  rw [pressL_ok h0 h1]
  have HH := Lib.hid hh
  have HC := Lib.hid (fun W (hb : Below w.heap.size w W) => cloneStates_any l.before bv W (hb0.keep hb) hf.2.2.2.1)
  have HHS := Lib.hid hs
  have HKE := Lib.hid h1
  obtain ⟨A, c, rfl, hc, hcells⟩ := hh
  have HB := Lib.hid (fun o1 o2 o3 => (((Below.refl _ w).alloc (Nat.le_refl _) o1).alloc (by simp) o2).alloc (by simp; omega) o3)
  clear h0 h1 hcells hf hs hb0
  obtain ⟨text, a, killed, killing, before, place, begun⟩ := l
  obtain ⟨a, rfl⟩ : ∃ n : Nat, a = (n : Int) := ⟨a.toNat, hG.out.at_⟩
  rw [show (⟨text, (a : Int), killed, killing, before, place, begun⟩ : EL).at'.toNat = a from Int.toNat_natCast a] at hG
  dsimp only at he
  subst he
  have HN := Lib.hid (show (pre ++ [(s, (k : Int))]).length = m + 1 by rw [List.length_append, hm]; rfl)
  have HM := Lib.hid hm
  have HSK := Lib.hid (show k ≤ s.size ∧ s.size ≤ 1000 by
    obtain ⟨k', e, h1, h2⟩ := hG.out.state (s, (k : Int)) (by simp)
    dsimp only at e h1 h2
    exact ⟨by omega, h2⟩)
  clear hm
  have HFF := Lib.hid (show keyL ⟨text, (a : Int), killed, killing, (pre ++ [(s, (k : Int))]), place, begun⟩ h 1 byte = ⟨(actD 1 byte killing ⟨text, a, killed, false⟩).text, ((actD 1 byte killing ⟨text, a, killed, false⟩).a : Int), (actD 1 byte killing ⟨text, a, killed, false⟩).killed, (actD 1 byte killing ⟨text, a, killed, false⟩).killing, if (actD 1 byte killing ⟨text, a, killed, false⟩).text = text ∨ ((1 : Int) = 1 ∧ goesL ⟨text, (a : Int), killed, killing, (pre ++ [(s, (k : Int))]), place, begun⟩ = true) then (pre ++ [(s, (k : Int))]) else noted ⟨text, (a : Int), killed, killing, (pre ++ [(s, (k : Int))]), place, begun⟩, place, begun⟩ by rw [keyL_act H19.out H20.out H21.out]; rfl)
  have HX := Lib.hid (show ¬ (actD 1 byte killing ⟨text, a, killed, false⟩).text = text from hx)
  clear hx
  obtain ⟨r, hr⟩ : ∃ r, keyL ⟨text, (a : Int), killed, killing, (pre ++ [(s, (k : Int))]), place, begun⟩ h 1 byte = r := ⟨_, rfl⟩
  have HR := Lib.hid (hr.symm.trans HFF.out)
  rw [hr]
  clear HFF hr
  have hnb : m + 1 ≤ 100 := by rw [← HN.out]; exact hG.out.len
  have HGB := Lib.hid (show goesB (s, (k : Int)) text a = true from hgo)
  clear hgo
  go_enter Tryz.func16, Tryz.ntmps16
  go_wp2_with fail
  have hbx := three_boxes w #[.string text, .int .i64 a, .string killed, .bool killing, bv, .int .i64 place, .string begun] #[.int .i64 1, .int .i64 byte] zeroL 37 42 37
  obtain ⟨x1, x2, x3⟩ := hbx
  have X3 := Lib.hid x3
  have X2 := Lib.hid x2
  have X1 := Lib.hid x1
  clear x1 x2 x3
  refine (hP.out _ (HB.out _ _ _)).mono ?_
  rintro e w1 ⟨rfl, hb1⟩
  have HB1 := Lib.hid ((HB.out _ _ _).trans (hb1.mono (HB.out _ _ _).size))
  have K31 := Lib.hid (X3.out.below hb1 X3.out.lt)
  have K21 := Lib.hid (X2.out.below hb1 X2.out.lt)
  have K11 := Lib.hid (X1.out.below hb1 X1.out.lt)
  obtain ⟨c2, z2⟩ := K21.out.cell
  obtain ⟨c1, z1⟩ := K11.out.cell
  have HZ1 := Lib.hid (show w.heap.size + 1 + 1 < w1.heap.size from K31.out.lt)
  clear hb1 X3 X2 X1 HB
  go_wp2_with fail
  refine (HC.out _ HB1.out).mono ?_
  rintro e w2 ⟨v2, rfl, ho2, hb2⟩
  rw [HN.out] at ho2
  obtain ⟨p2, q2, rfl⟩ := own_slice ho2
  have HO2 := Lib.hid ho2
  have HB2 := Lib.hid (HB1.out.trans (hb2.mono HB1.out.size))
  have K32 := Lib.hid (K31.out.below hb2 K31.out.lt)
  have K22 := Lib.hid (K21.out.below hb2 K21.out.lt)
  have K12 := Lib.hid (K11.out.below hb2 K11.out.lt)
  have HZ2 := Lib.hid hb2.size
  clear ho2 hb2 c2 z2 c1 z1 K31 K21 K11 HC hP
  obtain ⟨c1, z1⟩ := K12.out.cell
  obtain ⟨c2, z2⟩ := K22.out.cell
  have l1 : w.heap.size + 1 + 1 < w2.heap.size := K32.out.lt
  go_upto_region 16 with fail
  have hT : RTurned w2 w.heap.size (rlC ⟨text, a, killed, false⟩ (.slice p2 (m + 1) q2) place begun) (((w2.setCell ⟨w.heap.size, 4, none⟩ (.slice p2 (m + 1) q2)).setCell ⟨w.heap.size, 3, none⟩ (.bool false)).alloc (.cells #[.string text, .int .i64 a, .string killed, .bool false, .slice p2 (m + 1) q2, .int .i64 place, .string begun] 37)) := (((RTurned.refl K12.out).set 4 _).set 3 _).alloc _
  have hD : Blk (((w2.setCell ⟨w.heap.size, 4, none⟩ (.slice p2 (m + 1) q2)).setCell ⟨w.heap.size, 3, none⟩ (.bool false)).alloc (.cells #[.string text, .int .i64 a, .string killed, .bool false, .slice p2 (m + 1) q2, .int .i64 place, .string begun] 37)) w2.heap.size 37 #[.string text, .int .i64 a, .string killed, .bool false, .slice p2 (m + 1) q2, .int .i64 place, .string begun] := by
    exact blk_new_at (by simp [World.setCell]) _ _
  generalize ((w2.setCell ⟨w.heap.size, 4, none⟩ (.slice p2 (m + 1) q2)).setCell ⟨w.heap.size, 3, none⟩ (.bool false)).alloc (.cells #[.string text, .int .i64 a, .string killed, .bool false, .slice p2 (m + 1) q2, .int .i64 place, .string begun] 37) = w3 at *
  have HD3 := Lib.hid hD
  have K13 := Lib.hid hT.2
  have K23 := Lib.hid (K22.out.rturned hT (by omega))
  have K33 := Lib.hid (K32.out.rturned hT (by omega))
  have HO3 := Lib.hid (own_rturned HO2.out hT (by have := HZ1.out; omega))
  have HB3 := Lib.hid (HB2.out.trans (hT.below (Nat.le_refl _) HB2.out.size))
  have HZ3 := Lib.hid hT.1.size
  clear hT hD c1 z1 c2 z2 K12 K22 K32 HO2
  obtain ⟨c1, z1⟩ := K13.out.cell
  obtain ⟨c2, z2⟩ := K23.out.cell
  go_wp2_with fail
  refine (rpress_any ⟨text, a, killed, false⟩ 1 byte killing (.slice p2 (m + 1) q2) place begun w.heap.size w3 K13.out hG.out.a_le hG.out.text hG.out.killed HKE.out H19.out H20.out H21.out).mono ?_
  rintro e w5 ⟨rfl, hT⟩
  have l2 : w.heap.size + 1 + 1 < w2.heap.size := by have := HZ1.out; have := HZ2.out; omega
  have K15 := Lib.hid (show Blk _ _ 37 _ from hT.2)
  have K25 := Lib.hid (K23.out.rturned hT (by omega))
  have K35 := Lib.hid (K33.out.rturned hT (by omega))
  have HD5 := Lib.hid (HD3.out.rturned hT (by omega))
  have HO5 := Lib.hid (own_rturned HO3.out hT (by have := HZ1.out; omega))
  have HB5 := Lib.hid (HB3.out.trans (hT.below (Nat.le_refl _) HB3.out.size))
  have HS5 := Lib.hid hT.1.size
  clear hT c1 z1 c2 z2
  generalize (actD 1 byte killing ⟨text, a, killed, false⟩) = d at *
  obtain ⟨dt, da, dk, dkl⟩ := d
  dsimp only at *
  obtain ⟨c1, z1⟩ := K15.out.cell
  obtain ⟨c2, z2⟩ := K25.out.cell
  obtain ⟨cd, zd⟩ := HD5.out.cell
  have t1 : (dt.toList != text.toList) = true := by rw [bne_iff_ne, ByteArray.toList_eq, ByteArray.toList_eq]; intro e; exact HX.out (ByteArray.ext (Array.ext' e))
  have t2 : (dt.toList == text.toList) = false := bytes_ne HX.out
  obtain ⟨g, qq, hp2, hq2⟩ := own_slice1 HO5.out (by omega)
  obtain rfl : p2 = some ⟨g, 0, none⟩ := by injection hp2
  have hgl : g < w5.heap.size := (HO5.out.lt g rfl).2
  have hh1 : w5.cell? ⟨g, 0 + m * 2, none⟩ = some (.string s) := by
    have := HO5.out.cells (g := g) rfl (m * 2) (.string s) (by have := (esC_at (pre ++ [(s, (k : Int))]) m (by rw [HN.out]; omega)).1; rw [this]; simp [← HM.out])
    rwa [WideShapes.add_plain] at this
  have hh2 : w5.cell? ⟨g, 0 + m * 2 + 1, none⟩ = some (.int .i64 k) := by
    have := HO5.out.cells (g := g) rfl (m * 2 + 1) (.int .i64 k) (by have := (esC_at (pre ++ [(s, (k : Int))]) m (by rw [HN.out]; omega)).2; rw [this]; simp [← HM.out])
    rwa [WideShapes.add_plain, ← Nat.add_assoc] at this
  have hgo := rgoesOn_some s k text killed begun a m g 0 q2 false place w5 HSK.out.1 HSK.out.2 hG.out.a_le hG.out.text (by omega) hgl hh1 hh2
  rw [HGB.out] at hgo
  have HGO := Lib.hid hgo
  have HGL := Lib.hid (show goesL ⟨text, (a : Int), killed, killing, (pre ++ [(s, (k : Int))]), place, begun⟩ = true from goesL_snoc.trans HGB.out)
  clear hp2 hq2 hh1 hh2 hgo
  go_wp2_with fail
  refine HGO.out.mono ?_
  rintro e w6 ⟨rfl, hb⟩
  have K16 := Lib.hid (K15.out.below hb K15.out.lt)
  have K36 := Lib.hid (K35.out.below hb K35.out.lt)
  have HO6 := Lib.hid (own_below HO5.out hb)
  have HB6 := Lib.hid (HB5.out.trans (hb.mono HB5.out.size))
  have HS6 := Lib.hid (Nat.le_trans HS5.out hb.size)
  have HD6 := Lib.hid (HD5.out.below hb HD5.out.lt)
  clear hb c1 z1 c2 z2 cd zd HGO
  obtain ⟨c1, z1⟩ := K16.out.cell
  obtain ⟨cd, zd⟩ := HD6.out.cell
  obtain ⟨c3, z3⟩ := K36.out.cell
  go_wp2
  have hfar : ∀ j, (Value.slice (some ⟨g, 0, none⟩) (m + 1) q2).ownBlock = some j → w.heap.size + 1 + 1 < j := fun j hj => by have := (HO6.out.lt j hj).1; have := HZ1.out; omega
  rw [HR.out, if_pos (.inr ⟨by simp, HGL.out⟩)]
  refine rPress_end ((((((((K36.out).set_ 0 _).set_ 1 _).set_ 2 _).set_ 3 _).set_ 4 _).set_ 5 _).set_ 6 _) rfl rfl ⟨.slice (some ⟨g, 0, none⟩) (m + 1) q2, rfl, ?_, ?_, ?_⟩
  · exact (ES.of_own HO6.out).seven hfar _ _ _ _ _ _ _
  · exact fun j hj => by have := hfar j hj; omega
  · exact below_seven HB6.out (by omega) _ _ _ _ _ _ _

set_option maxRecDepth 100000 in
set_option maxHeartbeats 3200000 in
theorem rPress_act_1s_part (l : EL) (bv hv : Value) (h : List ByteArray) (kind byte : Int) (w : World) (hb0 : ES w bv l.before) (hh : SL w hv h) (hf : Fit l) (hn : h.length ≤ 9223372036854775807) (hs : ∀ s ∈ h, s.size ≤ maxLen) (h0 : pressedE l h h.length = 0) (h1 : keyE kind byte = 0) (hk : kind = 1 ∧ ¬ byte < 32 ∧ ¬ byte = 127 ∧ ¬ 255 < byte) (pre : List (ByteArray × Int)) (s : ByteArray) (k m : Nat) (he : l.before = pre ++ [(s, (k : Int))]) (hm : pre.length = m) (hx : ¬ (actD kind byte l.killing ⟨l.text, l.at'.toNat, l.killed, false⟩).text = l.text) (hfull : l.before.length < 100) (hgo : goesB (s, (k : Int)) l.text l.at'.toNat = false) :
    Calls Tryz.prog 16 #[elV2 l bv, hv, .agg #[.int .i64 kind, .int .i64 byte]] w (PressPost w (pressL l h kind byte)) := by
  obtain ⟨rfl, g1, n127, g2⟩ := hk
  have qn127127 : (byte == 127) = false := by rw [beq_eq_false_iff_ne]; exact n127
  have rn127127 : (byte != 127) = true := by rw [bne_iff_ne]; exact n127
  have H19 := Lib.hid (show ¬ (1 : Int) = 19 by decide)
  have H20 := Lib.hid (show ¬ (1 : Int) = 20 by decide)
  have H21 := Lib.hid (show ¬ (1 : Int) = 21 by decide)
  clear n127
  have hP := Lib.hid (fun W (hb : Below w.heap.size w W) => editForm_any l bv hv h W (hb0.keep hb) (hh.keep hb) hf hn hs)
  have hG := Lib.hid (good_of h0)
  rw [h0] at hP
  rw [pressL_ok h0 h1]
  have HH := Lib.hid hh
  have HC := Lib.hid (fun W (hb : Below w.heap.size w W) => cloneStates_any l.before bv W (hb0.keep hb) hf.2.2.2.1)
  have HHS := Lib.hid hs
  have HKE := Lib.hid h1
  obtain ⟨A, c, rfl, hc, hcells⟩ := hh
  have HB := Lib.hid (fun o1 o2 o3 => (((Below.refl _ w).alloc (Nat.le_refl _) o1).alloc (by simp) o2).alloc (by simp; omega) o3)
  clear h0 h1 hcells hf hs hb0
  obtain ⟨text, a, killed, killing, before, place, begun⟩ := l
  obtain ⟨a, rfl⟩ : ∃ n : Nat, a = (n : Int) := ⟨a.toNat, hG.out.at_⟩
  rw [show (⟨text, (a : Int), killed, killing, before, place, begun⟩ : EL).at'.toNat = a from Int.toNat_natCast a] at hG
  dsimp only at he
  subst he
  have HN := Lib.hid (show (pre ++ [(s, (k : Int))]).length = m + 1 by rw [List.length_append, hm]; rfl)
  have HM := Lib.hid hm
  have HSK := Lib.hid (show k ≤ s.size ∧ s.size ≤ 1000 by
    obtain ⟨k', e, h1, h2⟩ := hG.out.state (s, (k : Int)) (by simp)
    dsimp only at e h1 h2
    exact ⟨by omega, h2⟩)
  clear hm
  have HFF := Lib.hid (show keyL ⟨text, (a : Int), killed, killing, (pre ++ [(s, (k : Int))]), place, begun⟩ h 1 byte = ⟨(actD 1 byte killing ⟨text, a, killed, false⟩).text, ((actD 1 byte killing ⟨text, a, killed, false⟩).a : Int), (actD 1 byte killing ⟨text, a, killed, false⟩).killed, (actD 1 byte killing ⟨text, a, killed, false⟩).killing, if (actD 1 byte killing ⟨text, a, killed, false⟩).text = text ∨ ((1 : Int) = 1 ∧ goesL ⟨text, (a : Int), killed, killing, (pre ++ [(s, (k : Int))]), place, begun⟩ = true) then (pre ++ [(s, (k : Int))]) else noted ⟨text, (a : Int), killed, killing, (pre ++ [(s, (k : Int))]), place, begun⟩, place, begun⟩ by rw [keyL_act H19.out H20.out H21.out]; rfl)
  have HX := Lib.hid (show ¬ (actD 1 byte killing ⟨text, a, killed, false⟩).text = text from hx)
  clear hx
  obtain ⟨r, hr⟩ : ∃ r, keyL ⟨text, (a : Int), killed, killing, (pre ++ [(s, (k : Int))]), place, begun⟩ h 1 byte = r := ⟨_, rfl⟩
  have HR := Lib.hid (hr.symm.trans HFF.out)
  rw [hr]
  clear HFF hr
  have hnb : m + 1 < 100 := by rw [← HN.out]; exact hfull
  clear hfull
  have hd : ¬ (100 : Int) < (((m + 1 : Nat) : Int)) + 1 := by omega
  have HGB := Lib.hid (show goesB (s, (k : Int)) text a = false from hgo)
  clear hgo
  go_enter Tryz.func16, Tryz.ntmps16
  go_wp2_with fail
  have hbx := three_boxes w #[.string text, .int .i64 a, .string killed, .bool killing, bv, .int .i64 place, .string begun] #[.int .i64 1, .int .i64 byte] zeroL 37 42 37
  obtain ⟨x1, x2, x3⟩ := hbx
  have X3 := Lib.hid x3
  have X2 := Lib.hid x2
  have X1 := Lib.hid x1
  clear x1 x2 x3
  refine (hP.out _ (HB.out _ _ _)).mono ?_
  rintro e w1 ⟨rfl, hb1⟩
  have HB1 := Lib.hid ((HB.out _ _ _).trans (hb1.mono (HB.out _ _ _).size))
  have K31 := Lib.hid (X3.out.below hb1 X3.out.lt)
  have K21 := Lib.hid (X2.out.below hb1 X2.out.lt)
  have K11 := Lib.hid (X1.out.below hb1 X1.out.lt)
  obtain ⟨c2, z2⟩ := K21.out.cell
  obtain ⟨c1, z1⟩ := K11.out.cell
  have HZ1 := Lib.hid (show w.heap.size + 1 + 1 < w1.heap.size from K31.out.lt)
  clear hb1 X3 X2 X1 HB
  go_wp2_with fail
  refine (HC.out _ HB1.out).mono ?_
  rintro e w2 ⟨v2, rfl, ho2, hb2⟩
  rw [HN.out] at ho2
  obtain ⟨p2, q2, rfl⟩ := own_slice ho2
  have HO2 := Lib.hid ho2
  have HB2 := Lib.hid (HB1.out.trans (hb2.mono HB1.out.size))
  have K32 := Lib.hid (K31.out.below hb2 K31.out.lt)
  have K22 := Lib.hid (K21.out.below hb2 K21.out.lt)
  have K12 := Lib.hid (K11.out.below hb2 K11.out.lt)
  have HZ2 := Lib.hid hb2.size
  clear ho2 hb2 c2 z2 c1 z1 K31 K21 K11 HC hP
  obtain ⟨c1, z1⟩ := K12.out.cell
  obtain ⟨c2, z2⟩ := K22.out.cell
  have l1 : w.heap.size + 1 + 1 < w2.heap.size := K32.out.lt
  go_upto_region 16 with fail
  have hT : RTurned w2 w.heap.size (rlC ⟨text, a, killed, false⟩ (.slice p2 (m + 1) q2) place begun) (((w2.setCell ⟨w.heap.size, 4, none⟩ (.slice p2 (m + 1) q2)).setCell ⟨w.heap.size, 3, none⟩ (.bool false)).alloc (.cells #[.string text, .int .i64 a, .string killed, .bool false, .slice p2 (m + 1) q2, .int .i64 place, .string begun] 37)) := (((RTurned.refl K12.out).set 4 _).set 3 _).alloc _
  have hD : Blk (((w2.setCell ⟨w.heap.size, 4, none⟩ (.slice p2 (m + 1) q2)).setCell ⟨w.heap.size, 3, none⟩ (.bool false)).alloc (.cells #[.string text, .int .i64 a, .string killed, .bool false, .slice p2 (m + 1) q2, .int .i64 place, .string begun] 37)) w2.heap.size 37 #[.string text, .int .i64 a, .string killed, .bool false, .slice p2 (m + 1) q2, .int .i64 place, .string begun] := by
    exact blk_new_at (by simp [World.setCell]) _ _
  generalize ((w2.setCell ⟨w.heap.size, 4, none⟩ (.slice p2 (m + 1) q2)).setCell ⟨w.heap.size, 3, none⟩ (.bool false)).alloc (.cells #[.string text, .int .i64 a, .string killed, .bool false, .slice p2 (m + 1) q2, .int .i64 place, .string begun] 37) = w3 at *
  have HD3 := Lib.hid hD
  have K13 := Lib.hid hT.2
  have K23 := Lib.hid (K22.out.rturned hT (by omega))
  have K33 := Lib.hid (K32.out.rturned hT (by omega))
  have HO3 := Lib.hid (own_rturned HO2.out hT (by have := HZ1.out; omega))
  have HB3 := Lib.hid (HB2.out.trans (hT.below (Nat.le_refl _) HB2.out.size))
  have HZ3 := Lib.hid hT.1.size
  clear hT hD c1 z1 c2 z2 K12 K22 K32 HO2
  obtain ⟨c1, z1⟩ := K13.out.cell
  obtain ⟨c2, z2⟩ := K23.out.cell
  go_wp2_with fail
  refine (rpress_any ⟨text, a, killed, false⟩ 1 byte killing (.slice p2 (m + 1) q2) place begun w.heap.size w3 K13.out hG.out.a_le hG.out.text hG.out.killed HKE.out H19.out H20.out H21.out).mono ?_
  rintro e w5 ⟨rfl, hT⟩
  have l2 : w.heap.size + 1 + 1 < w2.heap.size := by have := HZ1.out; have := HZ2.out; omega
  have K15 := Lib.hid (show Blk _ _ 37 _ from hT.2)
  have K25 := Lib.hid (K23.out.rturned hT (by omega))
  have K35 := Lib.hid (K33.out.rturned hT (by omega))
  have HD5 := Lib.hid (HD3.out.rturned hT (by omega))
  have HO5 := Lib.hid (own_rturned HO3.out hT (by have := HZ1.out; omega))
  have HB5 := Lib.hid (HB3.out.trans (hT.below (Nat.le_refl _) HB3.out.size))
  have HS5 := Lib.hid hT.1.size
  clear hT c1 z1 c2 z2
  generalize (actD 1 byte killing ⟨text, a, killed, false⟩) = d at *
  obtain ⟨dt, da, dk, dkl⟩ := d
  dsimp only at *
  obtain ⟨c1, z1⟩ := K15.out.cell
  obtain ⟨c2, z2⟩ := K25.out.cell
  obtain ⟨cd, zd⟩ := HD5.out.cell
  have t1 : (dt.toList != text.toList) = true := by rw [bne_iff_ne, ByteArray.toList_eq, ByteArray.toList_eq]; intro e; exact HX.out (ByteArray.ext (Array.ext' e))
  have t2 : (dt.toList == text.toList) = false := bytes_ne HX.out
  obtain ⟨g, qq, hp2, hq2⟩ := own_slice1 HO5.out (by omega)
  obtain rfl : p2 = some ⟨g, 0, none⟩ := by injection hp2
  have hgl : g < w5.heap.size := (HO5.out.lt g rfl).2
  have hh1 : w5.cell? ⟨g, 0 + m * 2, none⟩ = some (.string s) := by
    have := HO5.out.cells (g := g) rfl (m * 2) (.string s) (by have := (esC_at (pre ++ [(s, (k : Int))]) m (by rw [HN.out]; omega)).1; rw [this]; simp [← HM.out])
    rwa [WideShapes.add_plain] at this
  have hh2 : w5.cell? ⟨g, 0 + m * 2 + 1, none⟩ = some (.int .i64 k) := by
    have := HO5.out.cells (g := g) rfl (m * 2 + 1) (.int .i64 k) (by have := (esC_at (pre ++ [(s, (k : Int))]) m (by rw [HN.out]; omega)).2; rw [this]; simp [← HM.out])
    rwa [WideShapes.add_plain, ← Nat.add_assoc] at this
  have hgo := rgoesOn_some s k text killed begun a m g 0 q2 false place w5 HSK.out.1 HSK.out.2 hG.out.a_le hG.out.text (by omega) hgl hh1 hh2
  rw [HGB.out] at hgo
  have HGO := Lib.hid hgo
  have HGL := Lib.hid (show goesL ⟨text, (a : Int), killed, killing, (pre ++ [(s, (k : Int))]), place, begun⟩ = false from goesL_snoc.trans HGB.out)
  clear hp2 hq2 hh1 hh2 hgo
  go_wp2_with fail
  refine HGO.out.mono ?_
  rintro e w6 ⟨rfl, hb⟩
  have K16 := Lib.hid (K15.out.below hb K15.out.lt)
  have K36 := Lib.hid (K35.out.below hb K35.out.lt)
  have HO6 := Lib.hid (own_below HO5.out hb)
  have HB6 := Lib.hid (HB5.out.trans (hb.mono HB5.out.size))
  have HS6 := Lib.hid (Nat.le_trans HS5.out hb.size)
  have HD6 := Lib.hid (HD5.out.below hb HD5.out.lt)
  clear hb c1 z1 c2 z2 cd zd HGO
  obtain ⟨c1, z1⟩ := K16.out.cell
  obtain ⟨cd, zd⟩ := HD6.out.cell
  obtain ⟨i0, hi, hz0, hz1, hz2⟩ := info_parts stateInfo
  go_wp2_with (at_builtin; refine wpList_append_own _ rfl _ _ 35 rfl w1.heap.size 85 i0 (.agg #[.string ⟨#[]⟩, .int .i64 0]) 2 24 Tryz.underlying35 hi hz0 hz1 hz2 rfl (by decide) _ _ _ rfl (HO6.out.alloc _) ⟨w6.heap.size, 0, none⟩ 1 1 [.string text, .int .i64 a] rfl rfl ?c1 ?c2 ?c3 ?c4 ?c5 ?_)
  case c1 => exact cells_pair _ _ _ _
  case c2 => intro u hu; simp at hu; rcases hu with rfl | rfl <;> rfl
  case c3 => unfold maxLen; omega
  case c4 => omega
  case c5 => simp; have := HZ2.out; have := HZ3.out; have := HS6.out; omega
  intro v7 w7 hown7 hg7 _
  have K17 := Lib.hid (K16.out.append HO6.out hg7 (by have := HZ1.out; omega))
  have K37 := Lib.hid (K36.out.append HO6.out hg7 HZ1.out)
  have HB7 := Lib.hid ((HB6.out.alloc HB6.out.size _).grown hg7 (by have := HB6.out.size; simp; omega) (fun g hg => by have := (HO6.out.lt g hg).1; have := HZ1.out; omega))
  have HO7 := Lib.hid (show w7.ownsRow w1.heap.size 85 2 v7 (m + 1 + 1) (esC ((pre ++ [(s, (k : Int))]) ++ [(text, (a : Int))])) by rw [esC_app]; exact hown7)
  obtain ⟨p7, q7, rfl⟩ := own_slice HO7.out
  obtain ⟨c1', z1'⟩ := K17.out.cell
  obtain ⟨c3, z3⟩ := K37.out.cell
  clear hown7 hg7 c1 z1 cd zd
  go_wp2
  have hfar : ∀ j, (Value.slice p7 (m + 1 + 1) q7).ownBlock = some j → w.heap.size + 1 + 1 < j := fun j hj => by have := (HO7.out.lt j hj).1; have := HZ1.out; omega
  rw [HR.out, if_neg (fun e => e.elim HX.out (fun e => by have := e.2; rw [HGL.out] at this; cases this))]
  refine rPress_end ((((((((K37.out.far (p := ⟨w.heap.size, 4, none⟩) (by show w.heap.size + 1 + 1 ≠ w.heap.size; omega) _).set_ 0 _).set_ 1 _).set_ 2 _).set_ 3 _).set_ 4 _).set_ 5 _).set_ 6 _) rfl rfl ⟨.slice p7 (m + 1 + 1) q7, rfl, ?_, ?_, ?_⟩
  · unfold noted
    dsimp only
    rw [HN.out, show m + 1 + 1 - 100 = 0 by omega, List.drop_zero]
    exact (((ES.of_own (l := (pre ++ [(s, (k : Int))]) ++ [(text, (a : Int))]) HO7.out).afar (fun j hj => by have := hfar j hj; omega) _ _).seven hfar _ _ _ _ _ _ _)
  · exact fun j hj => by have := hfar j hj; omega
  · exact below_seven (HB7.out.setCell (by simp) _) (by omega) _ _ _ _ _ _ _

set_option maxRecDepth 100000 in
set_option maxHeartbeats 3200000 in
theorem rPress_act_1s_full (l : EL) (bv hv : Value) (h : List ByteArray) (kind byte : Int) (w : World) (hb0 : ES w bv l.before) (hh : SL w hv h) (hf : Fit l) (hn : h.length ≤ 9223372036854775807) (hs : ∀ s ∈ h, s.size ≤ maxLen) (h0 : pressedE l h h.length = 0) (h1 : keyE kind byte = 0) (hk : kind = 1 ∧ ¬ byte < 32 ∧ ¬ byte = 127 ∧ ¬ 255 < byte) (pre : List (ByteArray × Int)) (s : ByteArray) (k m : Nat) (he : l.before = pre ++ [(s, (k : Int))]) (hm : pre.length = m) (hx : ¬ (actD kind byte l.killing ⟨l.text, l.at'.toNat, l.killed, false⟩).text = l.text) (hfull : l.before.length = 100) (hgo : goesB (s, (k : Int)) l.text l.at'.toNat = false) :
    Calls Tryz.prog 16 #[elV2 l bv, hv, .agg #[.int .i64 kind, .int .i64 byte]] w (PressPost w (pressL l h kind byte)) := by
  obtain ⟨rfl, g1, n127, g2⟩ := hk
  have qn127127 : (byte == 127) = false := by rw [beq_eq_false_iff_ne]; exact n127
  have rn127127 : (byte != 127) = true := by rw [bne_iff_ne]; exact n127
  have H19 := Lib.hid (show ¬ (1 : Int) = 19 by decide)
  have H20 := Lib.hid (show ¬ (1 : Int) = 20 by decide)
  have H21 := Lib.hid (show ¬ (1 : Int) = 21 by decide)
  clear n127
  have hP := Lib.hid (fun W (hb : Below w.heap.size w W) => editForm_any l bv hv h W (hb0.keep hb) (hh.keep hb) hf hn hs)
  have hG := Lib.hid (good_of h0)
  rw [h0] at hP
  rw [pressL_ok h0 h1]
  have HH := Lib.hid hh
  have HC := Lib.hid (fun W (hb : Below w.heap.size w W) => cloneStates_any l.before bv W (hb0.keep hb) hf.2.2.2.1)
  have HHS := Lib.hid hs
  have HKE := Lib.hid h1
  obtain ⟨A, c, rfl, hc, hcells⟩ := hh
  have HB := Lib.hid (fun o1 o2 o3 => (((Below.refl _ w).alloc (Nat.le_refl _) o1).alloc (by simp) o2).alloc (by simp; omega) o3)
  clear h0 h1 hcells hf hs hb0
  obtain ⟨text, a, killed, killing, before, place, begun⟩ := l
  obtain ⟨a, rfl⟩ : ∃ n : Nat, a = (n : Int) := ⟨a.toNat, hG.out.at_⟩
  rw [show (⟨text, (a : Int), killed, killing, before, place, begun⟩ : EL).at'.toNat = a from Int.toNat_natCast a] at hG
  dsimp only at he
  subst he
  have HN := Lib.hid (show (pre ++ [(s, (k : Int))]).length = m + 1 by rw [List.length_append, hm]; rfl)
  have HM := Lib.hid hm
  have HSK := Lib.hid (show k ≤ s.size ∧ s.size ≤ 1000 by
    obtain ⟨k', e, h1, h2⟩ := hG.out.state (s, (k : Int)) (by simp)
    dsimp only at e h1 h2
    exact ⟨by omega, h2⟩)
  clear hm
  have HFF := Lib.hid (show keyL ⟨text, (a : Int), killed, killing, (pre ++ [(s, (k : Int))]), place, begun⟩ h 1 byte = ⟨(actD 1 byte killing ⟨text, a, killed, false⟩).text, ((actD 1 byte killing ⟨text, a, killed, false⟩).a : Int), (actD 1 byte killing ⟨text, a, killed, false⟩).killed, (actD 1 byte killing ⟨text, a, killed, false⟩).killing, if (actD 1 byte killing ⟨text, a, killed, false⟩).text = text ∨ ((1 : Int) = 1 ∧ goesL ⟨text, (a : Int), killed, killing, (pre ++ [(s, (k : Int))]), place, begun⟩ = true) then (pre ++ [(s, (k : Int))]) else noted ⟨text, (a : Int), killed, killing, (pre ++ [(s, (k : Int))]), place, begun⟩, place, begun⟩ by rw [keyL_act H19.out H20.out H21.out]; rfl)
  have HX := Lib.hid (show ¬ (actD 1 byte killing ⟨text, a, killed, false⟩).text = text from hx)
  clear hx
  obtain ⟨r, hr⟩ : ∃ r, keyL ⟨text, (a : Int), killed, killing, (pre ++ [(s, (k : Int))]), place, begun⟩ h 1 byte = r := ⟨_, rfl⟩
  have HR := Lib.hid (hr.symm.trans HFF.out)
  rw [hr]
  clear HFF hr
  obtain rfl : m = 99 := by rw [HN.out] at hfull; omega
  clear hfull
  have HGB := Lib.hid (show goesB (s, (k : Int)) text a = false from hgo)
  clear hgo
  go_enter Tryz.func16, Tryz.ntmps16
  go_wp2_with fail
  have hbx := three_boxes w #[.string text, .int .i64 a, .string killed, .bool killing, bv, .int .i64 place, .string begun] #[.int .i64 1, .int .i64 byte] zeroL 37 42 37
  obtain ⟨x1, x2, x3⟩ := hbx
  have X3 := Lib.hid x3
  have X2 := Lib.hid x2
  have X1 := Lib.hid x1
  clear x1 x2 x3
  refine (hP.out _ (HB.out _ _ _)).mono ?_
  rintro e w1 ⟨rfl, hb1⟩
  have HB1 := Lib.hid ((HB.out _ _ _).trans (hb1.mono (HB.out _ _ _).size))
  have K31 := Lib.hid (X3.out.below hb1 X3.out.lt)
  have K21 := Lib.hid (X2.out.below hb1 X2.out.lt)
  have K11 := Lib.hid (X1.out.below hb1 X1.out.lt)
  obtain ⟨c2, z2⟩ := K21.out.cell
  obtain ⟨c1, z1⟩ := K11.out.cell
  have HZ1 := Lib.hid (show w.heap.size + 1 + 1 < w1.heap.size from K31.out.lt)
  clear hb1 X3 X2 X1 HB
  go_wp2_with fail
  refine (HC.out _ HB1.out).mono ?_
  rintro e w2 ⟨v2, rfl, ho2, hb2⟩
  rw [HN.out] at ho2
  obtain ⟨p2, q2, rfl⟩ := own_slice ho2
  have HO2 := Lib.hid ho2
  have HB2 := Lib.hid (HB1.out.trans (hb2.mono HB1.out.size))
  have K32 := Lib.hid (K31.out.below hb2 K31.out.lt)
  have K22 := Lib.hid (K21.out.below hb2 K21.out.lt)
  have K12 := Lib.hid (K11.out.below hb2 K11.out.lt)
  have HZ2 := Lib.hid hb2.size
  clear ho2 hb2 c2 z2 c1 z1 K31 K21 K11 HC hP
  obtain ⟨c1, z1⟩ := K12.out.cell
  obtain ⟨c2, z2⟩ := K22.out.cell
  have l1 : w.heap.size + 1 + 1 < w2.heap.size := K32.out.lt
  go_upto_region 16 with fail
  have hT : RTurned w2 w.heap.size (rlC ⟨text, a, killed, false⟩ (.slice p2 ((99 + 1)) q2) place begun) (((w2.setCell ⟨w.heap.size, 4, none⟩ (.slice p2 ((99 + 1)) q2)).setCell ⟨w.heap.size, 3, none⟩ (.bool false)).alloc (.cells #[.string text, .int .i64 a, .string killed, .bool false, .slice p2 ((99 + 1)) q2, .int .i64 place, .string begun] 37)) := (((RTurned.refl K12.out).set 4 _).set 3 _).alloc _
  have hD : Blk (((w2.setCell ⟨w.heap.size, 4, none⟩ (.slice p2 ((99 + 1)) q2)).setCell ⟨w.heap.size, 3, none⟩ (.bool false)).alloc (.cells #[.string text, .int .i64 a, .string killed, .bool false, .slice p2 ((99 + 1)) q2, .int .i64 place, .string begun] 37)) w2.heap.size 37 #[.string text, .int .i64 a, .string killed, .bool false, .slice p2 ((99 + 1)) q2, .int .i64 place, .string begun] := by
    exact blk_new_at (by simp [World.setCell]) _ _
  generalize ((w2.setCell ⟨w.heap.size, 4, none⟩ (.slice p2 ((99 + 1)) q2)).setCell ⟨w.heap.size, 3, none⟩ (.bool false)).alloc (.cells #[.string text, .int .i64 a, .string killed, .bool false, .slice p2 ((99 + 1)) q2, .int .i64 place, .string begun] 37) = w3 at *
  have HD3 := Lib.hid hD
  have K13 := Lib.hid hT.2
  have K23 := Lib.hid (K22.out.rturned hT (by omega))
  have K33 := Lib.hid (K32.out.rturned hT (by omega))
  have HO3 := Lib.hid (own_rturned HO2.out hT (by have := HZ1.out; omega))
  have HB3 := Lib.hid (HB2.out.trans (hT.below (Nat.le_refl _) HB2.out.size))
  have HZ3 := Lib.hid hT.1.size
  clear hT hD c1 z1 c2 z2 K12 K22 K32 HO2
  obtain ⟨c1, z1⟩ := K13.out.cell
  obtain ⟨c2, z2⟩ := K23.out.cell
  go_wp2_with fail
  refine (rpress_any ⟨text, a, killed, false⟩ 1 byte killing (.slice p2 ((99 + 1)) q2) place begun w.heap.size w3 K13.out hG.out.a_le hG.out.text hG.out.killed HKE.out H19.out H20.out H21.out).mono ?_
  rintro e w5 ⟨rfl, hT⟩
  have l2 : w.heap.size + 1 + 1 < w2.heap.size := by have := HZ1.out; have := HZ2.out; omega
  have K15 := Lib.hid (show Blk _ _ 37 _ from hT.2)
  have K25 := Lib.hid (K23.out.rturned hT (by omega))
  have K35 := Lib.hid (K33.out.rturned hT (by omega))
  have HD5 := Lib.hid (HD3.out.rturned hT (by omega))
  have HO5 := Lib.hid (own_rturned HO3.out hT (by have := HZ1.out; omega))
  have HB5 := Lib.hid (HB3.out.trans (hT.below (Nat.le_refl _) HB3.out.size))
  have HS5 := Lib.hid hT.1.size
  clear hT c1 z1 c2 z2
  generalize (actD 1 byte killing ⟨text, a, killed, false⟩) = d at *
  obtain ⟨dt, da, dk, dkl⟩ := d
  dsimp only at *
  obtain ⟨c1, z1⟩ := K15.out.cell
  obtain ⟨c2, z2⟩ := K25.out.cell
  obtain ⟨cd, zd⟩ := HD5.out.cell
  have t1 : (dt.toList != text.toList) = true := by rw [bne_iff_ne, ByteArray.toList_eq, ByteArray.toList_eq]; intro e; exact HX.out (ByteArray.ext (Array.ext' e))
  have t2 : (dt.toList == text.toList) = false := bytes_ne HX.out
  obtain ⟨g, qq, hp2, hq2⟩ := own_slice1 HO5.out (by omega)
  obtain rfl : p2 = some ⟨g, 0, none⟩ := by injection hp2
  have hgl : g < w5.heap.size := (HO5.out.lt g rfl).2
  have hh1 : w5.cell? ⟨g, 0 + 99 * 2, none⟩ = some (.string s) := by
    have := HO5.out.cells (g := g) rfl (99 * 2) (.string s) (by have := (esC_at (pre ++ [(s, (k : Int))]) 99 (by rw [HN.out]; omega)).1; rw [this]; simp [← HM.out])
    rwa [WideShapes.add_plain] at this
  have hh2 : w5.cell? ⟨g, 0 + 99 * 2 + 1, none⟩ = some (.int .i64 k) := by
    have := HO5.out.cells (g := g) rfl (99 * 2 + 1) (.int .i64 k) (by have := (esC_at (pre ++ [(s, (k : Int))]) 99 (by rw [HN.out]; omega)).2; rw [this]; simp [← HM.out])
    rwa [WideShapes.add_plain, ← Nat.add_assoc] at this
  have hgo := rgoesOn_some s k text killed begun a 99 g 0 q2 false place w5 HSK.out.1 HSK.out.2 hG.out.a_le hG.out.text (by omega) hgl hh1 hh2
  rw [HGB.out] at hgo
  have HGO := Lib.hid hgo
  have HGL := Lib.hid (show goesL ⟨text, (a : Int), killed, killing, (pre ++ [(s, (k : Int))]), place, begun⟩ = false from goesL_snoc.trans HGB.out)
  clear hp2 hq2 hh1 hh2 hgo
  go_wp2_with fail
  refine HGO.out.mono ?_
  rintro e w6 ⟨rfl, hb⟩
  have K16 := Lib.hid (K15.out.below hb K15.out.lt)
  have K36 := Lib.hid (K35.out.below hb K35.out.lt)
  have HO6 := Lib.hid (own_below HO5.out hb)
  have HB6 := Lib.hid (HB5.out.trans (hb.mono HB5.out.size))
  have HS6 := Lib.hid (Nat.le_trans HS5.out hb.size)
  have HD6 := Lib.hid (HD5.out.below hb HD5.out.lt)
  clear hb c1 z1 c2 z2 cd zd HGO
  obtain ⟨c1, z1⟩ := K16.out.cell
  obtain ⟨cd, zd⟩ := HD6.out.cell
  obtain ⟨i0, hi, hz0, hz1, hz2⟩ := info_parts stateInfo
  go_wp2_with (at_builtin; refine wpList_append_own _ rfl _ _ 35 rfl w1.heap.size 85 i0 (.agg #[.string ⟨#[]⟩, .int .i64 0]) 2 24 Tryz.underlying35 hi hz0 hz1 hz2 rfl (by decide) _ _ _ rfl (HO6.out.alloc _) ⟨w6.heap.size, 0, none⟩ 1 1 [.string text, .int .i64 a] rfl rfl ?c1 ?c2 ?c3 ?c4 ?c5 ?_)
  case c1 => exact cells_pair _ _ _ _
  case c2 => intro u hu; simp at hu; rcases hu with rfl | rfl <;> rfl
  case c3 => unfold maxLen; omega
  case c4 => omega
  case c5 => simp; have := HZ2.out; have := HZ3.out; have := HS6.out; omega
  intro v7 w7 hown7 hg7 _
  have K17 := Lib.hid (K16.out.append HO6.out hg7 (by have := HZ1.out; omega))
  have K37 := Lib.hid (K36.out.append HO6.out hg7 HZ1.out)
  have HB7 := Lib.hid ((HB6.out.alloc HB6.out.size _).grown hg7 (by have := HB6.out.size; simp; omega) (fun g hg => by have := (HO6.out.lt g hg).1; have := HZ1.out; omega))
  have HO7 := Lib.hid (show w7.ownsRow w1.heap.size 85 2 v7 ((99 + 1) + 1) (esC ((pre ++ [(s, (k : Int))]) ++ [(text, (a : Int))])) by rw [esC_app]; exact hown7)
  obtain ⟨g7, q7, rfl, hq7⟩ := own_slice1 HO7.out (by omega)
  have hq1 : ¬ q7 = 1 := by omega
  obtain ⟨c1', z1'⟩ := K17.out.cell
  obtain ⟨c3, z3⟩ := K37.out.cell
  clear hown7 hg7 c1 z1 cd zd
  go_wp2
  have hfar : ∀ j, (Value.slice (some ⟨g7, 2, none⟩) (100) (q7 - 1)).ownBlock = some j → w.heap.size + 1 + 1 < j := fun j hj => by have := (HO7.out.lt j hj).1; have := HZ1.out; omega
  have HES := Lib.hid (ES.cut1 (ES.of_own (l := (pre ++ [(s, (k : Int))]) ++ [(text, (a : Int))]) HO7.out) (by rw [List.length_append, HN.out]; rfl))
  rw [HR.out, if_neg (fun e => e.elim HX.out (fun e => by have := e.2; rw [HGL.out] at this; cases this))]
  refine rPress_end (((((((((K37.out.far (p := ⟨w.heap.size, 4, none⟩) (by show w.heap.size + 1 + 1 ≠ w.heap.size; omega) _).far (p := ⟨w.heap.size, 4, none⟩) (by show w.heap.size + 1 + 1 ≠ w.heap.size; omega) _).set_ 0 _).set_ 1 _).set_ 2 _).set_ 3 _).set_ 4 _).set_ 5 _).set_ 6 _) rfl rfl ⟨.slice (some ⟨g7, 2, none⟩) (100) (q7 - 1), rfl, ?_, ?_, ?_⟩
  · unfold noted
    dsimp only
    rw [HN.out]
    exact ((HES.out.afar (fun j hj => by have := hfar j hj; omega) _ _).afar (fun j hj => by have := hfar j hj; omega) _ _).seven hfar _ _ _ _ _ _ _
  · exact fun j hj => by have := hfar j hj; omega
  · exact below_seven ((HB7.out.setCell (by simp) _).setCell (by simp) _) (by omega) _ _ _ _ _ _ _

end Go.Proofs.YtokmiommhfbkeaaGreatDoor
