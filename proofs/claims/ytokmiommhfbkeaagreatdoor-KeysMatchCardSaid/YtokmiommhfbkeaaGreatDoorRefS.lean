/- The reference's Press gives the line that pressL tells: keys that move or change. -/
import Derived.Test.YtokmiommhfbkeaaGreatDoorRefR
namespace Go.Proofs.YtokmiommhfbkeaaGreatDoor
open Go.RowKit

theorem Blk.append {w w6 : World} {g base s n : Nat} {t e : TypeId} {cs : Array Value} {o : Obj} {v : Value} {xs : List Value} (h : Blk w g t cs) (ho : w.ownsRow base e s v n xs) (hg : (w.alloc o).grownBy w6 v.ownBlock) (hlt : g < base) : Blk w6 g t cs :=
  (hg.block g (by have := h.lt; simp; omega) (fun e => by have := (ho.lt _ e.symm).1; omega)).trans ((Below.heap_alloc w o g h.lt).trans h)
theorem keyL_act {l : EL} {h : List ByteArray} {kind byte : Int} (h19 : ¬ kind = 19) (h20 : ¬ kind = 20) (h21 : ¬ kind = 21) : keyL l h kind byte = changeL l kind byte := by
  unfold keyL; rw [if_neg h19, if_neg h20, if_neg h21]
theorem cells_pair (w : World) (x y : Value) (t : TypeId) : ∀ j u, [x, y][j]? = some u → (w.alloc (.cells #[x, y] t)).cell? ((⟨w.heap.size, 0, none⟩ : Addr).add j) = some u := fun j u hu => by
  rw [WideShapes.add_plain, World.cell?_alloc_at _ _ _ _ rfl, Nat.zero_add]
  simpa using hu
theorem own_below' {w w' : World} {B : Nat} {e : TypeId} {v : Value} {n s : Nat} {xs : List Value} (h : w.ownsRow B e s v n xs) (hb : Below w.heap.size w w') : w'.ownsRow B e s v n xs := own_below h hb

set_option maxRecDepth 100000 in
set_option maxHeartbeats 3200000 in
theorem rPress_act_gen_same (l : EL) (bv hv : Value) (h : List ByteArray) (kind byte : Int) (w : World) (hb0 : ES w bv l.before) (hh : SL w hv h) (hf : Fit l) (hn : h.length ≤ 9223372036854775807) (hs : ∀ s ∈ h, s.size ≤ maxLen) (h0 : pressedE l h h.length = 0) (h1 : keyE kind byte = 0) (h19 : ¬ kind = 19) (h20 : ¬ kind = 20) (h21 : ¬ kind = 21) (hk : ¬ kind < 1 ∧ ¬ 22 < kind ∧ ¬ kind = 1 ∧ ¬ kind = 22 ∧ byte = 0) (hx : (actD kind byte l.killing ⟨l.text, l.at'.toNat, l.killed, false⟩).text = l.text) :
    Calls Tryz.prog 16 #[elV2 l bv, hv, .agg #[.int .i64 kind, .int .i64 byte]] w (PressPost w (pressL l h kind byte)) := by
  obtain ⟨g1, g2, n1, n22, rfl⟩ := hk
  have qn11 : (kind == 1) = false := by rw [beq_eq_false_iff_ne]; exact n1
  have rn11 : (kind != 1) = true := by rw [bne_iff_ne]; exact n1
  have qn2222 : (kind == 22) = false := by rw [beq_eq_false_iff_ne]; exact n22
  have rn2222 : (kind != 22) = true := by rw [bne_iff_ne]; exact n22
  have qh1919 : (kind == 19) = false := by rw [beq_eq_false_iff_ne]; exact h19
  have rh1919 : (kind != 19) = true := by rw [bne_iff_ne]; exact h19
  have qh2020 : (kind == 20) = false := by rw [beq_eq_false_iff_ne]; exact h20
  have rh2020 : (kind != 20) = true := by rw [bne_iff_ne]; exact h20
  have qh2121 : (kind == 21) = false := by rw [beq_eq_false_iff_ne]; exact h21
  have rh2121 : (kind != 21) = true := by rw [bne_iff_ne]; exact h21
  have H19 := Lib.hid h19
  have H20 := Lib.hid h20
  have H21 := Lib.hid h21
  have HK1 := Lib.hid n1
  clear h19 h20 h21 n1 n22
  have hP := Lib.hid (fun W (hb : Below w.heap.size w W) => editForm_any l bv hv h W (hb0.keep hb) (hh.keep hb) hf hn hs)
  have hG := Lib.hid (good_of h0)
  rw [h0] at hP
  rw [pressL_ok h0 h1]
  have HH := Lib.hid hh
  have HC := Lib.hid (fun W (hb : Below w.heap.size w W) => cloneStates_any l.before bv W (hb0.keep hb) hf.2.2.2.1)
  have HHS := Lib.hid hs
  have HKE := Lib.hid h1
  obtain ⟨A, c, rfl, hc, hcells⟩ := hh
  have HB := Lib.hid (fun o1 o2 o3 => (((Below.refl _ w).alloc (Nat.le_refl _) o1).alloc (by simp) o2).alloc (by simp; omega) o3)
  clear h0 h1 hcells hf hs hb0
  obtain ⟨text, a, killed, killing, before, place, begun⟩ := l
  obtain ⟨a, rfl⟩ : ∃ n : Nat, a = (n : Int) := ⟨a.toNat, hG.out.at_⟩
  rw [show (⟨text, (a : Int), killed, killing, before, place, begun⟩ : EL).at'.toNat = a from Int.toNat_natCast a] at hG
  obtain ⟨n, hnn⟩ : ∃ n, before.length = n := ⟨_, rfl⟩
  have HN := Lib.hid hnn
  clear hnn
  have HFF := Lib.hid (show keyL ⟨text, (a : Int), killed, killing, before, place, begun⟩ h kind 0 = ⟨(actD kind 0 killing ⟨text, a, killed, false⟩).text, ((actD kind 0 killing ⟨text, a, killed, false⟩).a : Int), (actD kind 0 killing ⟨text, a, killed, false⟩).killed, (actD kind 0 killing ⟨text, a, killed, false⟩).killing, if (actD kind 0 killing ⟨text, a, killed, false⟩).text = text ∨ ((kind : Int) = 1 ∧ goesL ⟨text, (a : Int), killed, killing, before, place, begun⟩ = true) then before else noted ⟨text, (a : Int), killed, killing, before, place, begun⟩, place, begun⟩ by rw [keyL_act H19.out H20.out H21.out]; rfl)
  have HX := Lib.hid (show (actD kind 0 killing ⟨text, a, killed, false⟩).text = text from hx)
  clear hx
  obtain ⟨r, hr⟩ : ∃ r, keyL ⟨text, (a : Int), killed, killing, before, place, begun⟩ h kind 0 = r := ⟨_, rfl⟩
  have HR := Lib.hid (hr.symm.trans HFF.out)
  rw [hr]
  clear HFF hr
  have hnb : n ≤ 100 := by rw [← HN.out]; exact hG.out.len
  go_enter Tryz.func16, Tryz.ntmps16
  go_wp2_with fail
  have hbx := three_boxes w #[.string text, .int .i64 a, .string killed, .bool killing, bv, .int .i64 place, .string begun] #[.int .i64 kind, .int .i64 0] zeroL 37 42 37
  obtain ⟨x1, x2, x3⟩ := hbx
  have X3 := Lib.hid x3
  have X2 := Lib.hid x2
  have X1 := Lib.hid x1
  clear x1 x2 x3
  refine (hP.out _ (HB.out _ _ _)).mono ?_
  rintro e w1 ⟨rfl, hb1⟩
  have HB1 := Lib.hid ((HB.out _ _ _).trans (hb1.mono (HB.out _ _ _).size))
  have K31 := Lib.hid (X3.out.below hb1 X3.out.lt)
  have K21 := Lib.hid (X2.out.below hb1 X2.out.lt)
  have K11 := Lib.hid (X1.out.below hb1 X1.out.lt)
  obtain ⟨c2, z2⟩ := K21.out.cell
  obtain ⟨c1, z1⟩ := K11.out.cell
  have HZ1 := Lib.hid (show w.heap.size + 1 + 1 < w1.heap.size from K31.out.lt)
  clear hb1 X3 X2 X1 HB
  go_wp2_with fail
  refine (HC.out _ HB1.out).mono ?_
  rintro e w2 ⟨v2, rfl, ho2, hb2⟩
  rw [HN.out] at ho2
  obtain ⟨p2, q2, rfl⟩ := own_slice ho2
  have HO2 := Lib.hid ho2
  have HB2 := Lib.hid (HB1.out.trans (hb2.mono HB1.out.size))
  have K32 := Lib.hid (K31.out.below hb2 K31.out.lt)
  have K22 := Lib.hid (K21.out.below hb2 K21.out.lt)
  have K12 := Lib.hid (K11.out.below hb2 K11.out.lt)
  have HZ2 := Lib.hid hb2.size
  clear ho2 hb2 c2 z2 c1 z1 K31 K21 K11 HC hP
  obtain ⟨c1, z1⟩ := K12.out.cell
  obtain ⟨c2, z2⟩ := K22.out.cell
  have l1 : w.heap.size + 1 + 1 < w2.heap.size := K32.out.lt
  go_upto_region 16 with fail
  have hT : RTurned w2 w.heap.size (rlC ⟨text, a, killed, false⟩ (.slice p2 (n) q2) place begun) (((w2.setCell ⟨w.heap.size, 4, none⟩ (.slice p2 (n) q2)).setCell ⟨w.heap.size, 3, none⟩ (.bool false)).alloc (.cells #[.string text, .int .i64 a, .string killed, .bool false, .slice p2 (n) q2, .int .i64 place, .string begun] 37)) := (((RTurned.refl K12.out).set 4 _).set 3 _).alloc _
  have hD : Blk (((w2.setCell ⟨w.heap.size, 4, none⟩ (.slice p2 (n) q2)).setCell ⟨w.heap.size, 3, none⟩ (.bool false)).alloc (.cells #[.string text, .int .i64 a, .string killed, .bool false, .slice p2 (n) q2, .int .i64 place, .string begun] 37)) w2.heap.size 37 #[.string text, .int .i64 a, .string killed, .bool false, .slice p2 (n) q2, .int .i64 place, .string begun] := by
    exact blk_new_at (by simp [World.setCell]) _ _
  generalize ((w2.setCell ⟨w.heap.size, 4, none⟩ (.slice p2 (n) q2)).setCell ⟨w.heap.size, 3, none⟩ (.bool false)).alloc (.cells #[.string text, .int .i64 a, .string killed, .bool false, .slice p2 (n) q2, .int .i64 place, .string begun] 37) = w3 at *
  have HD3 := Lib.hid hD
  have K13 := Lib.hid hT.2
  have K23 := Lib.hid (K22.out.rturned hT (by omega))
  have K33 := Lib.hid (K32.out.rturned hT (by omega))
  have HO3 := Lib.hid (own_rturned HO2.out hT (by have := HZ1.out; omega))
  have HB3 := Lib.hid (HB2.out.trans (hT.below (Nat.le_refl _) HB2.out.size))
  have HZ3 := Lib.hid hT.1.size
  clear hT hD c1 z1 c2 z2 K12 K22 K32 HO2
  obtain ⟨c1, z1⟩ := K13.out.cell
  obtain ⟨c2, z2⟩ := K23.out.cell
  go_wp2_with fail
  refine (rpress_any ⟨text, a, killed, false⟩ kind 0 killing (.slice p2 (n) q2) place begun w.heap.size w3 K13.out hG.out.a_le hG.out.text hG.out.killed HKE.out H19.out H20.out H21.out).mono ?_
  rintro e w5 ⟨rfl, hT⟩
  have l2 : w.heap.size + 1 + 1 < w2.heap.size := by have := HZ1.out; have := HZ2.out; omega
  have K15 := Lib.hid (show Blk _ _ 37 _ from hT.2)
  have K25 := Lib.hid (K23.out.rturned hT (by omega))
  have K35 := Lib.hid (K33.out.rturned hT (by omega))
  have HD5 := Lib.hid (HD3.out.rturned hT (by omega))
  have HO5 := Lib.hid (own_rturned HO3.out hT (by have := HZ1.out; omega))
  have HB5 := Lib.hid (HB3.out.trans (hT.below (Nat.le_refl _) HB3.out.size))
  have HS5 := Lib.hid hT.1.size
  clear hT c1 z1 c2 z2
  generalize (actD kind 0 killing ⟨text, a, killed, false⟩) = d at *
  obtain ⟨dt, da, dk, dkl⟩ := d
  dsimp only at *
  obtain ⟨c1, z1⟩ := K15.out.cell
  obtain ⟨c2, z2⟩ := K25.out.cell
  obtain ⟨cd, zd⟩ := HD5.out.cell
  have t1 : (dt.toList != text.toList) = false := by rw [HX.out]; simp
  have t2 : (dt.toList == text.toList) = true := by rw [HX.out]; simp
  obtain ⟨c3, z3⟩ := K35.out.cell
  go_wp2
  have hfar : ∀ j, (Value.slice p2 (n) q2).ownBlock = some j → w.heap.size + 1 + 1 < j := fun j hj => by have := (HO5.out.lt j hj).1; have := HZ1.out; omega
  rw [HR.out, if_pos (.inl HX.out)]
  refine rPress_end ((((((((K35.out).set_ 0 _).set_ 1 _).set_ 2 _).set_ 3 _).set_ 4 _).set_ 5 _).set_ 6 _) rfl rfl ⟨.slice p2 (n) q2, rfl, ?_, ?_, ?_⟩
  · exact (ES.of_own HO5.out).seven hfar _ _ _ _ _ _ _
  · exact fun j hj => by have := hfar j hj; omega
  · exact below_seven HB5.out (by omega) _ _ _ _ _ _ _

set_option maxRecDepth 100000 in
set_option maxHeartbeats 3200000 in
theorem rPress_act_gen_part (l : EL) (bv hv : Value) (h : List ByteArray) (kind byte : Int) (w : World) (hb0 : ES w bv l.before) (hh : SL w hv h) (hf : Fit l) (hn : h.length ≤ 9223372036854775807) (hs : ∀ s ∈ h, s.size ≤ maxLen) (h0 : pressedE l h h.length = 0) (h1 : keyE kind byte = 0) (h19 : ¬ kind = 19) (h20 : ¬ kind = 20) (h21 : ¬ kind = 21) (hk : ¬ kind < 1 ∧ ¬ 22 < kind ∧ ¬ kind = 1 ∧ ¬ kind = 22 ∧ byte = 0) (hx : ¬ (actD kind byte l.killing ⟨l.text, l.at'.toNat, l.killed, false⟩).text = l.text) (hfull : l.before.length < 100) :
    Calls Tryz.prog 16 #[elV2 l bv, hv, .agg #[.int .i64 kind, .int .i64 byte]] w (PressPost w (pressL l h kind byte)) := by
  obtain ⟨g1, g2, n1, n22, rfl⟩ := hk
  have qn11 : (kind == 1) = false := by rw [beq_eq_false_iff_ne]; exact n1
  have rn11 : (kind != 1) = true := by rw [bne_iff_ne]; exact n1
  have qn2222 : (kind == 22) = false := by rw [beq_eq_false_iff_ne]; exact n22
  have rn2222 : (kind != 22) = true := by rw [bne_iff_ne]; exact n22
  have qh1919 : (kind == 19) = false := by rw [beq_eq_false_iff_ne]; exact h19
  have rh1919 : (kind != 19) = true := by rw [bne_iff_ne]; exact h19
  have qh2020 : (kind == 20) = false := by rw [beq_eq_false_iff_ne]; exact h20
  have rh2020 : (kind != 20) = true := by rw [bne_iff_ne]; exact h20
  have qh2121 : (kind == 21) = false := by rw [beq_eq_false_iff_ne]; exact h21
  have rh2121 : (kind != 21) = true := by rw [bne_iff_ne]; exact h21
  have H19 := Lib.hid h19
  have H20 := Lib.hid h20
  have H21 := Lib.hid h21
  have HK1 := Lib.hid n1
  clear h19 h20 h21 n1 n22
  have hP := Lib.hid (fun W (hb : Below w.heap.size w W) => editForm_any l bv hv h W (hb0.keep hb) (hh.keep hb) hf hn hs)
  have hG := Lib.hid (good_of h0)
  rw [h0] at hP
  rw [pressL_ok h0 h1]
  have HH := Lib.hid hh
  have HC := Lib.hid (fun W (hb : Below w.heap.size w W) => cloneStates_any l.before bv W (hb0.keep hb) hf.2.2.2.1)
  have HHS := Lib.hid hs
  have HKE := Lib.hid h1
  obtain ⟨A, c, rfl, hc, hcells⟩ := hh
  have HB := Lib.hid (fun o1 o2 o3 => (((Below.refl _ w).alloc (Nat.le_refl _) o1).alloc (by simp) o2).alloc (by simp; omega) o3)
  clear h0 h1 hcells hf hs hb0
  obtain ⟨text, a, killed, killing, before, place, begun⟩ := l
  obtain ⟨a, rfl⟩ : ∃ n : Nat, a = (n : Int) := ⟨a.toNat, hG.out.at_⟩
  rw [show (⟨text, (a : Int), killed, killing, before, place, begun⟩ : EL).at'.toNat = a from Int.toNat_natCast a] at hG
  obtain ⟨n, hnn⟩ : ∃ n, before.length = n := ⟨_, rfl⟩
  have HN := Lib.hid hnn
  clear hnn
  have HFF := Lib.hid (show keyL ⟨text, (a : Int), killed, killing, before, place, begun⟩ h kind 0 = ⟨(actD kind 0 killing ⟨text, a, killed, false⟩).text, ((actD kind 0 killing ⟨text, a, killed, false⟩).a : Int), (actD kind 0 killing ⟨text, a, killed, false⟩).killed, (actD kind 0 killing ⟨text, a, killed, false⟩).killing, if (actD kind 0 killing ⟨text, a, killed, false⟩).text = text ∨ ((kind : Int) = 1 ∧ goesL ⟨text, (a : Int), killed, killing, before, place, begun⟩ = true) then before else noted ⟨text, (a : Int), killed, killing, before, place, begun⟩, place, begun⟩ by rw [keyL_act H19.out H20.out H21.out]; rfl)
  have HX := Lib.hid (show ¬ (actD kind 0 killing ⟨text, a, killed, false⟩).text = text from hx)
  clear hx
  obtain ⟨r, hr⟩ : ∃ r, keyL ⟨text, (a : Int), killed, killing, before, place, begun⟩ h kind 0 = r := ⟨_, rfl⟩
  have HR := Lib.hid (hr.symm.trans HFF.out)
  rw [hr]
  clear HFF hr
  have hnb : n < 100 := by rw [← HN.out]; exact hfull
  clear hfull
  have hd : ¬ (100 : Int) < (((n : Nat) : Int)) + 1 := by omega
  go_enter Tryz.func16, Tryz.ntmps16
  go_wp2_with fail
  have hbx := three_boxes w #[.string text, .int .i64 a, .string killed, .bool killing, bv, .int .i64 place, .string begun] #[.int .i64 kind, .int .i64 0] zeroL 37 42 37
  obtain ⟨x1, x2, x3⟩ := hbx
  have X3 := Lib.hid x3
  have X2 := Lib.hid x2
  have X1 := Lib.hid x1
  clear x1 x2 x3
  refine (hP.out _ (HB.out _ _ _)).mono ?_
  rintro e w1 ⟨rfl, hb1⟩
  have HB1 := Lib.hid ((HB.out _ _ _).trans (hb1.mono (HB.out _ _ _).size))
  have K31 := Lib.hid (X3.out.below hb1 X3.out.lt)
  have K21 := Lib.hid (X2.out.below hb1 X2.out.lt)
  have K11 := Lib.hid (X1.out.below hb1 X1.out.lt)
  obtain ⟨c2, z2⟩ := K21.out.cell
  obtain ⟨c1, z1⟩ := K11.out.cell
  have HZ1 := Lib.hid (show w.heap.size + 1 + 1 < w1.heap.size from K31.out.lt)
  clear hb1 X3 X2 X1 HB
  go_wp2_with fail
  refine (HC.out _ HB1.out).mono ?_
  rintro e w2 ⟨v2, rfl, ho2, hb2⟩
  rw [HN.out] at ho2
  obtain ⟨p2, q2, rfl⟩ := own_slice ho2
  have HO2 := Lib.hid ho2
  have HB2 := Lib.hid (HB1.out.trans (hb2.mono HB1.out.size))
  have K32 := Lib.hid (K31.out.below hb2 K31.out.lt)
  have K22 := Lib.hid (K21.out.below hb2 K21.out.lt)
  have K12 := Lib.hid (K11.out.below hb2 K11.out.lt)
  have HZ2 := Lib.hid hb2.size
  clear ho2 hb2 c2 z2 c1 z1 K31 K21 K11 HC hP
  obtain ⟨c1, z1⟩ := K12.out.cell
  obtain ⟨c2, z2⟩ := K22.out.cell
  have l1 : w.heap.size + 1 + 1 < w2.heap.size := K32.out.lt
  go_upto_region 16 with fail
  have hT : RTurned w2 w.heap.size (rlC ⟨text, a, killed, false⟩ (.slice p2 (n) q2) place begun) (((w2.setCell ⟨w.heap.size, 4, none⟩ (.slice p2 (n) q2)).setCell ⟨w.heap.size, 3, none⟩ (.bool false)).alloc (.cells #[.string text, .int .i64 a, .string killed, .bool false, .slice p2 (n) q2, .int .i64 place, .string begun] 37)) := (((RTurned.refl K12.out).set 4 _).set 3 _).alloc _
  have hD : Blk (((w2.setCell ⟨w.heap.size, 4, none⟩ (.slice p2 (n) q2)).setCell ⟨w.heap.size, 3, none⟩ (.bool false)).alloc (.cells #[.string text, .int .i64 a, .string killed, .bool false, .slice p2 (n) q2, .int .i64 place, .string begun] 37)) w2.heap.size 37 #[.string text, .int .i64 a, .string killed, .bool false, .slice p2 (n) q2, .int .i64 place, .string begun] := by
    exact blk_new_at (by simp [World.setCell]) _ _
  generalize ((w2.setCell ⟨w.heap.size, 4, none⟩ (.slice p2 (n) q2)).setCell ⟨w.heap.size, 3, none⟩ (.bool false)).alloc (.cells #[.string text, .int .i64 a, .string killed, .bool false, .slice p2 (n) q2, .int .i64 place, .string begun] 37) = w3 at *
  have HD3 := Lib.hid hD
  have K13 := Lib.hid hT.2
  have K23 := Lib.hid (K22.out.rturned hT (by omega))
  have K33 := Lib.hid (K32.out.rturned hT (by omega))
  have HO3 := Lib.hid (own_rturned HO2.out hT (by have := HZ1.out; omega))
  have HB3 := Lib.hid (HB2.out.trans (hT.below (Nat.le_refl _) HB2.out.size))
  have HZ3 := Lib.hid hT.1.size
  clear hT hD c1 z1 c2 z2 K12 K22 K32 HO2
  obtain ⟨c1, z1⟩ := K13.out.cell
  obtain ⟨c2, z2⟩ := K23.out.cell
  go_wp2_with fail
  refine (rpress_any ⟨text, a, killed, false⟩ kind 0 killing (.slice p2 (n) q2) place begun w.heap.size w3 K13.out hG.out.a_le hG.out.text hG.out.killed HKE.out H19.out H20.out H21.out).mono ?_
  rintro e w5 ⟨rfl, hT⟩
  have l2 : w.heap.size + 1 + 1 < w2.heap.size := by have := HZ1.out; have := HZ2.out; omega
  have K15 := Lib.hid (show Blk _ _ 37 _ from hT.2)
  have K25 := Lib.hid (K23.out.rturned hT (by omega))
  have K35 := Lib.hid (K33.out.rturned hT (by omega))
  have HD5 := Lib.hid (HD3.out.rturned hT (by omega))
  have HO5 := Lib.hid (own_rturned HO3.out hT (by have := HZ1.out; omega))
  have HB5 := Lib.hid (HB3.out.trans (hT.below (Nat.le_refl _) HB3.out.size))
  have HS5 := Lib.hid hT.1.size
  clear hT c1 z1 c2 z2
  generalize (actD kind 0 killing ⟨text, a, killed, false⟩) = d at *
  obtain ⟨dt, da, dk, dkl⟩ := d
  dsimp only at *
  obtain ⟨c1, z1⟩ := K15.out.cell
  obtain ⟨c2, z2⟩ := K25.out.cell
  obtain ⟨cd, zd⟩ := HD5.out.cell
  have t1 : (dt.toList != text.toList) = true := by rw [bne_iff_ne, ByteArray.toList_eq, ByteArray.toList_eq]; intro e; exact HX.out (ByteArray.ext (Array.ext' e))
  have t2 : (dt.toList == text.toList) = false := bytes_ne HX.out
  obtain ⟨i0, hi, hz0, hz1, hz2⟩ := info_parts stateInfo
  go_wp2_with (at_builtin; refine wpList_append_own _ rfl _ _ 35 rfl w1.heap.size 85 i0 (.agg #[.string ⟨#[]⟩, .int .i64 0]) 2 24 Tryz.underlying35 hi hz0 hz1 hz2 rfl (by decide) _ _ _ rfl (HO5.out.alloc _) ⟨w5.heap.size, 0, none⟩ 1 1 [.string text, .int .i64 a] rfl rfl ?c1 ?c2 ?c3 ?c4 ?c5 ?_)
  case c1 => exact cells_pair _ _ _ _
  case c2 => intro u hu; simp at hu; rcases hu with rfl | rfl <;> rfl
  case c3 => unfold maxLen; omega
  case c4 => omega
  case c5 => simp; have := HZ2.out; have := HZ3.out; have := HS5.out; omega
  intro v7 w7 hown7 hg7 _
  have K17 := Lib.hid (K15.out.append HO5.out hg7 (by have := HZ1.out; omega))
  have K37 := Lib.hid (K35.out.append HO5.out hg7 HZ1.out)
  have HB7 := Lib.hid ((HB5.out.alloc HB5.out.size _).grown hg7 (by have := HB5.out.size; simp; omega) (fun g hg => by have := (HO5.out.lt g hg).1; have := HZ1.out; omega))
  have HO7 := Lib.hid (show w7.ownsRow w1.heap.size 85 2 v7 (n + 1) (esC (before ++ [(text, (a : Int))])) by rw [esC_app]; exact hown7)
  obtain ⟨p7, q7, rfl⟩ := own_slice HO7.out
  obtain ⟨c1', z1'⟩ := K17.out.cell
  obtain ⟨c3, z3⟩ := K37.out.cell
  clear hown7 hg7 c1 z1 c2 z2 cd zd
  go_wp2
  have hfar : ∀ j, (Value.slice p7 (n + 1) q7).ownBlock = some j → w.heap.size + 1 + 1 < j := fun j hj => by have := (HO7.out.lt j hj).1; have := HZ1.out; omega
  rw [HR.out, if_neg (fun e => e.elim HX.out (fun e => HK1.out e.1))]
  refine rPress_end ((((((((K37.out.far (p := ⟨w.heap.size, 4, none⟩) (by show w.heap.size + 1 + 1 ≠ w.heap.size; omega) _).set_ 0 _).set_ 1 _).set_ 2 _).set_ 3 _).set_ 4 _).set_ 5 _).set_ 6 _) rfl rfl ⟨.slice p7 (n + 1) q7, rfl, ?_, ?_, ?_⟩
  · unfold noted
    dsimp only
    rw [HN.out, show n + 1 - 100 = 0 by omega, List.drop_zero]
    exact (((ES.of_own (l := before ++ [(text, (a : Int))]) HO7.out).afar (fun j hj => by have := hfar j hj; omega) _ _).seven hfar _ _ _ _ _ _ _)
  · exact fun j hj => by have := hfar j hj; omega
  · exact below_seven (HB7.out.setCell (by simp) _) (by omega) _ _ _ _ _ _ _

set_option maxRecDepth 100000 in
set_option maxHeartbeats 3200000 in
theorem rPress_act_gen_full (l : EL) (bv hv : Value) (h : List ByteArray) (kind byte : Int) (w : World) (hb0 : ES w bv l.before) (hh : SL w hv h) (hf : Fit l) (hn : h.length ≤ 9223372036854775807) (hs : ∀ s ∈ h, s.size ≤ maxLen) (h0 : pressedE l h h.length = 0) (h1 : keyE kind byte = 0) (h19 : ¬ kind = 19) (h20 : ¬ kind = 20) (h21 : ¬ kind = 21) (hk : ¬ kind < 1 ∧ ¬ 22 < kind ∧ ¬ kind = 1 ∧ ¬ kind = 22 ∧ byte = 0) (hx : ¬ (actD kind byte l.killing ⟨l.text, l.at'.toNat, l.killed, false⟩).text = l.text) (hfull : l.before.length = 100) :
    Calls Tryz.prog 16 #[elV2 l bv, hv, .agg #[.int .i64 kind, .int .i64 byte]] w (PressPost w (pressL l h kind byte)) := by
  obtain ⟨g1, g2, n1, n22, rfl⟩ := hk
  have qn11 : (kind == 1) = false := by rw [beq_eq_false_iff_ne]; exact n1
  have rn11 : (kind != 1) = true := by rw [bne_iff_ne]; exact n1
  have qn2222 : (kind == 22) = false := by rw [beq_eq_false_iff_ne]; exact n22
  have rn2222 : (kind != 22) = true := by rw [bne_iff_ne]; exact n22
  have qh1919 : (kind == 19) = false := by rw [beq_eq_false_iff_ne]; exact h19
  have rh1919 : (kind != 19) = true := by rw [bne_iff_ne]; exact h19
  have qh2020 : (kind == 20) = false := by rw [beq_eq_false_iff_ne]; exact h20
  have rh2020 : (kind != 20) = true := by rw [bne_iff_ne]; exact h20
  have qh2121 : (kind == 21) = false := by rw [beq_eq_false_iff_ne]; exact h21
  have rh2121 : (kind != 21) = true := by rw [bne_iff_ne]; exact h21
  have H19 := Lib.hid h19
  have H20 := Lib.hid h20
  have H21 := Lib.hid h21
  have HK1 := Lib.hid n1
  clear h19 h20 h21 n1 n22
  have hP := Lib.hid (fun W (hb : Below w.heap.size w W) => editForm_any l bv hv h W (hb0.keep hb) (hh.keep hb) hf hn hs)
  have hG := Lib.hid (good_of h0)
  rw [h0] at hP
  rw [pressL_ok h0 h1]
  have HH := Lib.hid hh
  have HC := Lib.hid (fun W (hb : Below w.heap.size w W) => cloneStates_any l.before bv W (hb0.keep hb) hf.2.2.2.1)
  have HHS := Lib.hid hs
  have HKE := Lib.hid h1
  obtain ⟨A, c, rfl, hc, hcells⟩ := hh
  have HB := Lib.hid (fun o1 o2 o3 => (((Below.refl _ w).alloc (Nat.le_refl _) o1).alloc (by simp) o2).alloc (by simp; omega) o3)
  clear h0 h1 hcells hf hs hb0
  obtain ⟨text, a, killed, killing, before, place, begun⟩ := l
  obtain ⟨a, rfl⟩ : ∃ n : Nat, a = (n : Int) := ⟨a.toNat, hG.out.at_⟩
  rw [show (⟨text, (a : Int), killed, killing, before, place, begun⟩ : EL).at'.toNat = a from Int.toNat_natCast a] at hG
  obtain ⟨n, hnn⟩ : ∃ n, before.length = n := ⟨_, rfl⟩
  have HN := Lib.hid hnn
  clear hnn
  have HFF := Lib.hid (show keyL ⟨text, (a : Int), killed, killing, before, place, begun⟩ h kind 0 = ⟨(actD kind 0 killing ⟨text, a, killed, false⟩).text, ((actD kind 0 killing ⟨text, a, killed, false⟩).a : Int), (actD kind 0 killing ⟨text, a, killed, false⟩).killed, (actD kind 0 killing ⟨text, a, killed, false⟩).killing, if (actD kind 0 killing ⟨text, a, killed, false⟩).text = text ∨ ((kind : Int) = 1 ∧ goesL ⟨text, (a : Int), killed, killing, before, place, begun⟩ = true) then before else noted ⟨text, (a : Int), killed, killing, before, place, begun⟩, place, begun⟩ by rw [keyL_act H19.out H20.out H21.out]; rfl)
  have HX := Lib.hid (show ¬ (actD kind 0 killing ⟨text, a, killed, false⟩).text = text from hx)
  clear hx
  obtain ⟨r, hr⟩ : ∃ r, keyL ⟨text, (a : Int), killed, killing, before, place, begun⟩ h kind 0 = r := ⟨_, rfl⟩
  have HR := Lib.hid (hr.symm.trans HFF.out)
  rw [hr]
  clear HFF hr
  obtain rfl : n = 100 := by rw [← HN.out]; exact hfull
  clear hfull
  go_enter Tryz.func16, Tryz.ntmps16
  go_wp2_with fail
  have hbx := three_boxes w #[.string text, .int .i64 a, .string killed, .bool killing, bv, .int .i64 place, .string begun] #[.int .i64 kind, .int .i64 0] zeroL 37 42 37
  obtain ⟨x1, x2, x3⟩ := hbx
  have X3 := Lib.hid x3
  have X2 := Lib.hid x2
  have X1 := Lib.hid x1
  clear x1 x2 x3
  refine (hP.out _ (HB.out _ _ _)).mono ?_
  rintro e w1 ⟨rfl, hb1⟩
  have HB1 := Lib.hid ((HB.out _ _ _).trans (hb1.mono (HB.out _ _ _).size))
  have K31 := Lib.hid (X3.out.below hb1 X3.out.lt)
  have K21 := Lib.hid (X2.out.below hb1 X2.out.lt)
  have K11 := Lib.hid (X1.out.below hb1 X1.out.lt)
  obtain ⟨c2, z2⟩ := K21.out.cell
  obtain ⟨c1, z1⟩ := K11.out.cell
  have HZ1 := Lib.hid (show w.heap.size + 1 + 1 < w1.heap.size from K31.out.lt)
  clear hb1 X3 X2 X1 HB
  go_wp2_with fail
  refine (HC.out _ HB1.out).mono ?_
  rintro e w2 ⟨v2, rfl, ho2, hb2⟩
  rw [HN.out] at ho2
  obtain ⟨p2, q2, rfl⟩ := own_slice ho2
  have HO2 := Lib.hid ho2
  have HB2 := Lib.hid (HB1.out.trans (hb2.mono HB1.out.size))
  have K32 := Lib.hid (K31.out.below hb2 K31.out.lt)
  have K22 := Lib.hid (K21.out.below hb2 K21.out.lt)
  have K12 := Lib.hid (K11.out.below hb2 K11.out.lt)
  have HZ2 := Lib.hid hb2.size
  clear ho2 hb2 c2 z2 c1 z1 K31 K21 K11 HC hP
  obtain ⟨c1, z1⟩ := K12.out.cell
  obtain ⟨c2, z2⟩ := K22.out.cell
  have l1 : w.heap.size + 1 + 1 < w2.heap.size := K32.out.lt
  go_upto_region 16 with fail
  have hT : RTurned w2 w.heap.size (rlC ⟨text, a, killed, false⟩ (.slice p2 (100) q2) place begun) (((w2.setCell ⟨w.heap.size, 4, none⟩ (.slice p2 (100) q2)).setCell ⟨w.heap.size, 3, none⟩ (.bool false)).alloc (.cells #[.string text, .int .i64 a, .string killed, .bool false, .slice p2 (100) q2, .int .i64 place, .string begun] 37)) := (((RTurned.refl K12.out).set 4 _).set 3 _).alloc _
  have hD : Blk (((w2.setCell ⟨w.heap.size, 4, none⟩ (.slice p2 (100) q2)).setCell ⟨w.heap.size, 3, none⟩ (.bool false)).alloc (.cells #[.string text, .int .i64 a, .string killed, .bool false, .slice p2 (100) q2, .int .i64 place, .string begun] 37)) w2.heap.size 37 #[.string text, .int .i64 a, .string killed, .bool false, .slice p2 (100) q2, .int .i64 place, .string begun] := by
    exact blk_new_at (by simp [World.setCell]) _ _
  generalize ((w2.setCell ⟨w.heap.size, 4, none⟩ (.slice p2 (100) q2)).setCell ⟨w.heap.size, 3, none⟩ (.bool false)).alloc (.cells #[.string text, .int .i64 a, .string killed, .bool false, .slice p2 (100) q2, .int .i64 place, .string begun] 37) = w3 at *
  have HD3 := Lib.hid hD
  have K13 := Lib.hid hT.2
  have K23 := Lib.hid (K22.out.rturned hT (by omega))
  have K33 := Lib.hid (K32.out.rturned hT (by omega))
  have HO3 := Lib.hid (own_rturned HO2.out hT (by have := HZ1.out; omega))
  have HB3 := Lib.hid (HB2.out.trans (hT.below (Nat.le_refl _) HB2.out.size))
  have HZ3 := Lib.hid hT.1.size
  clear hT hD c1 z1 c2 z2 K12 K22 K32 HO2
  obtain ⟨c1, z1⟩ := K13.out.cell
  obtain ⟨c2, z2⟩ := K23.out.cell
  go_wp2_with fail
  refine (rpress_any ⟨text, a, killed, false⟩ kind 0 killing (.slice p2 (100) q2) place begun w.heap.size w3 K13.out hG.out.a_le hG.out.text hG.out.killed HKE.out H19.out H20.out H21.out).mono ?_
  rintro e w5 ⟨rfl, hT⟩
  have l2 : w.heap.size + 1 + 1 < w2.heap.size := by have := HZ1.out; have := HZ2.out; omega
  have K15 := Lib.hid (show Blk _ _ 37 _ from hT.2)
  have K25 := Lib.hid (K23.out.rturned hT (by omega))
  have K35 := Lib.hid (K33.out.rturned hT (by omega))
  have HD5 := Lib.hid (HD3.out.rturned hT (by omega))
  have HO5 := Lib.hid (own_rturned HO3.out hT (by have := HZ1.out; omega))
  have HB5 := Lib.hid (HB3.out.trans (hT.below (Nat.le_refl _) HB3.out.size))
  have HS5 := Lib.hid hT.1.size
  clear hT c1 z1 c2 z2
  generalize (actD kind 0 killing ⟨text, a, killed, false⟩) = d at *
  obtain ⟨dt, da, dk, dkl⟩ := d
  dsimp only at *
  obtain ⟨c1, z1⟩ := K15.out.cell
  obtain ⟨c2, z2⟩ := K25.out.cell
  obtain ⟨cd, zd⟩ := HD5.out.cell
  have t1 : (dt.toList != text.toList) = true := by rw [bne_iff_ne, ByteArray.toList_eq, ByteArray.toList_eq]; intro e; exact HX.out (ByteArray.ext (Array.ext' e))
  have t2 : (dt.toList == text.toList) = false := bytes_ne HX.out
  obtain ⟨i0, hi, hz0, hz1, hz2⟩ := info_parts stateInfo
  go_wp2_with (at_builtin; refine wpList_append_own _ rfl _ _ 35 rfl w1.heap.size 85 i0 (.agg #[.string ⟨#[]⟩, .int .i64 0]) 2 24 Tryz.underlying35 hi hz0 hz1 hz2 rfl (by decide) _ _ _ rfl (HO5.out.alloc _) ⟨w5.heap.size, 0, none⟩ 1 1 [.string text, .int .i64 a] rfl rfl ?c1 ?c2 ?c3 ?c4 ?c5 ?_)
  case c1 => exact cells_pair _ _ _ _
  case c2 => intro u hu; simp at hu; rcases hu with rfl | rfl <;> rfl
  case c3 => unfold maxLen; omega
  case c4 => omega
  case c5 => simp; have := HZ2.out; have := HZ3.out; have := HS5.out; omega
  intro v7 w7 hown7 hg7 _
  have K17 := Lib.hid (K15.out.append HO5.out hg7 (by have := HZ1.out; omega))
  have K37 := Lib.hid (K35.out.append HO5.out hg7 HZ1.out)
  have HB7 := Lib.hid ((HB5.out.alloc HB5.out.size _).grown hg7 (by have := HB5.out.size; simp; omega) (fun g hg => by have := (HO5.out.lt g hg).1; have := HZ1.out; omega))
  have HO7 := Lib.hid (show w7.ownsRow w1.heap.size 85 2 v7 (100 + 1) (esC (before ++ [(text, (a : Int))])) by rw [esC_app]; exact hown7)
  obtain ⟨g7, q7, rfl, hq7⟩ := own_slice1 HO7.out (by omega)
  have hq1 : ¬ q7 = 1 := by omega
  obtain ⟨c1', z1'⟩ := K17.out.cell
  obtain ⟨c3, z3⟩ := K37.out.cell
  clear hown7 hg7 c1 z1 c2 z2 cd zd
  go_wp2
  have hfar : ∀ j, (Value.slice (some ⟨g7, 2, none⟩) (100) (q7 - 1)).ownBlock = some j → w.heap.size + 1 + 1 < j := fun j hj => by have := (HO7.out.lt j hj).1; have := HZ1.out; omega
  have HES := Lib.hid (ES.cut1 (ES.of_own (l := before ++ [(text, (a : Int))]) HO7.out) (by rw [List.length_append, HN.out]; rfl))
  rw [HR.out, if_neg (fun e => e.elim HX.out (fun e => HK1.out e.1))]
  refine rPress_end (((((((((K37.out.far (p := ⟨w.heap.size, 4, none⟩) (by show w.heap.size + 1 + 1 ≠ w.heap.size; omega) _).far (p := ⟨w.heap.size, 4, none⟩) (by show w.heap.size + 1 + 1 ≠ w.heap.size; omega) _).set_ 0 _).set_ 1 _).set_ 2 _).set_ 3 _).set_ 4 _).set_ 5 _).set_ 6 _) rfl rfl ⟨.slice (some ⟨g7, 2, none⟩) (100) (q7 - 1), rfl, ?_, ?_, ?_⟩
  · unfold noted
    dsimp only
    rw [HN.out]
    exact ((HES.out.afar (fun j hj => by have := hfar j hj; omega) _ _).afar (fun j hj => by have := hfar j hj; omega) _ _).seven hfar _ _ _ _ _ _ _
  · exact fun j hj => by have := hfar j hj; omega
  · exact below_seven ((HB7.out.setCell (by simp) _).setCell (by simp) _) (by omega) _ _ _ _ _ _ _

end Go.Proofs.YtokmiommhfbkeaaGreatDoor
