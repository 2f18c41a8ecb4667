/- The program's Press at a good line and key: undo and the history. -/
import Derived.Test.YtokmiommhfbkeaaGreatDoorPress
namespace Go.Proofs.YtokmiommhfbkeaaGreatDoor
open Go.RowKit

theorem lineB_size {s : ByteArray} (h : lineB s = true) : s.size ≤ 1000 := by simp [lineB] at h; exact h.1
/-- what a good line and history are -/
structure Good (l : EL) (h : List ByteArray) (a : Nat) : Prop where
  at_ : l.at' = a
  a_le : a ≤ l.text.size
  text : l.text.size ≤ 1000
  killed : l.killed.size ≤ 1000
  begun : l.begun.size ≤ 1000
  len : l.before.length ≤ 100
  state : ∀ s ∈ l.before, ∃ k : Nat, s.2 = k ∧ k ≤ s.1.size ∧ s.1.size ≤ 1000
  hist : h.length ≤ 200
  p0 : 0 ≤ l.place
  p1 : l.place ≤ h.length
theorem good_of {l : EL} {h : List ByteArray} (h0 : pressedE l h h.length = 0) : Good l h l.at'.toNat := by
  unfold pressedE at h0
  split at h0
  · omega
  rename_i hg
  split at h0
  · omega
  rename_i hl
  split at h0
  · omega
  rename_i hp
  have hg : goodB l = true := by simpa using hg
  simp only [goodB, Bool.and_eq_true] at hg
  obtain ⟨⟨⟨⟨g1, g2⟩, g3⟩, g4⟩, g5⟩ := hg
  have hp : withinB l.place 0 h.length = true := by simpa using hp
  simp [withinB] at g1 hp
  simp only [not_or, Nat.not_lt, Bool.not_eq_false] at hl
  have hh := hl.2
  simp [histB] at hh
  refine ⟨by omega, by omega, lineB_size g2, lineB_size g4, lineB_size g3, hl.1, fun s hs => ?_, hh.1, hp.1, hp.2⟩
  have hs := List.all_eq_true.1 g5 s hs
  simp [stateB, withinB] at hs
  exact ⟨s.2.toNat, by omega, by omega, lineB_size hs.1⟩

theorem nil_or_snoc {α : Type} (l : List α) : l = [] ∨ ∃ p x, l = p ++ [x] := by
  rcases List.eq_nil_or_concat l with h | ⟨p, x, h⟩
  · exact .inl h
  · exact .inr ⟨p, x, by rw [h, List.concat_eq_append]⟩
theorem ES.prefix {w : World} {A : Option Addr} {c n : Nat} {pre m : List (ByteArray × Int)} (h : ES w (.slice A n c) (pre ++ m)) : ES w (.slice A pre.length c) pre := by
  obtain ⟨A', c', e, hc, h⟩ := h
  injection e with e1 e2 e3
  subst e1; subst e3
  have hlen : (pre ++ m).length = pre.length + m.length := List.length_append
  refine ⟨A, c, rfl, by omega, fun hp => ?_⟩
  obtain ⟨b, off, rfl, hlt, hcell⟩ := h (by omega)
  refine ⟨b, off, rfl, hlt, fun j hj => ?_⟩
  have := hcell j (by rw [List.length_append]; omega)
  rwa [List.getElem_append_left hj] at this
theorem own_turned {w w' : World} {b B : Nat} {cs : Array Value} {e : TypeId} {v : Value} {n s : Nat} {xs : List Value} (h : w.ownsRow B e s v n xs) (hT : Turned w b cs w') (hb : b < B) : w'.ownsRow B e s v n xs := by
  refine h.kept hT.1 ?_
  rcases hv : v.ownBlock with _ | k
  · exact .inl rfl
  · refine .inr fun e => ?_
    have := (h.lt k hv).1
    injection e with e
    omega

set_option maxRecDepth 100000 in
set_option maxHeartbeats 3200000 in
theorem press_undo (l : EL) (bv hv : Value) (h : List ByteArray) (kind byte : Int) (w : World) (hb0 : ES w bv l.before) (hh : SL w hv h) (hf : Fit l) (hn : h.length ≤ 9223372036854775807) (hs : ∀ s ∈ h, s.size ≤ maxLen) (h0 : pressedE l h h.length = 0) (h1 : keyE kind byte = 0) (hk : kind = 19) :
    Calls Tryz.prog 14 #[elV2 l bv, hv, .agg #[.int .i64 kind, .int .i64 byte]] w (PressPost w (pressL l h kind byte)) := by
  have e20 : (kind == 20) = false := by rw [hk]; rfl
  have e21 : (kind == 21) = false := by rw [hk]; rfl
  have e19 : (kind == 19) = true := by rw [hk]; rfl
  have HKD := Lib.hid hk
  clear hk
  have hP := Lib.hid (fun W (hb : Below w.heap.size w W) => pressed_any l bv h hv h.length W (hb0.keep hb) (hh.keep hb) hf hn hs)
  have hG := Lib.hid (good_of h0)
  rw [h0] at hP
  have hK := Lib.hid (fun W => rightKey_any kind byte W)
  rw [h1] at hK
  rw [pressL_ok h0 h1]
  have HL := Lib.hid hh
  have HC := Lib.hid (fun W (hb : Below w.heap.size w W) => cloneStates_any l.before bv W (hb0.keep hb) hf.2.2.2.1)
  obtain ⟨A, c, rfl, hc, hcells⟩ := hh
  have HB := Lib.hid (fun o1 o2 o3 => (((Below.refl _ w).alloc (Nat.le_refl _) o1).alloc (by simp) o2).alloc (by simp; omega) o3)
  clear h0 h1 hcells hf hs hb0
  obtain ⟨text, a, killed, killing, before, place, begun⟩ := l
  obtain ⟨a, rfl⟩ : ∃ n : Nat, a = (n : Int) := ⟨a.toNat, hG.out.at_⟩
  rw [show (⟨text, (a : Int), killed, killing, before, place, begun⟩ : EL).at'.toNat = a from Int.toNat_natCast a] at hG
  go_enter Tryz.func14, Tryz.ntmps14
  go_wp2_with fail
  have hbx := three_boxes w #[.string text, .int .i64 a, .string killed, .bool killing, bv, .int .i64 place, .string begun] #[.int .i64 kind, .int .i64 byte] zeroL 37 42 37
  obtain ⟨x1, x2, x3⟩ := hbx
  have X3 := Lib.hid x3
  have X2 := Lib.hid x2
  have X1 := Lib.hid x1
  clear x1 x2 x3
  refine (hP.out _ (HB.out _ _ _)).mono ?_
  rintro e w1 ⟨rfl, hb1⟩
  have HB1 := Lib.hid ((HB.out _ _ _).trans (hb1.mono (HB.out _ _ _).size))
  have K3 := Lib.hid (X3.out.below hb1 X3.out.lt)
  have K1 := Lib.hid (X1.out.below hb1 X1.out.lt)
  have k2 := X2.out.below hb1 X2.out.lt
  have K2 := Lib.hid k2
  obtain ⟨c2, z2⟩ := k2.cell
  clear hb1 k2 X3 X2 X1
  go_wp2_with fail
  refine (hK.out _).mono ?_
  rintro e w2 ⟨rfl, hb2⟩
  have HB2 := Lib.hid (HB1.out.trans (hb2.mono HB1.out.size))
  have K32 := Lib.hid (K3.out.below hb2 K3.out.lt)
  have K22 := Lib.hid (K2.out.below hb2 K2.out.lt)
  have k1 := K1.out.below hb2 K1.out.lt
  have K12 := Lib.hid k1
  obtain ⟨c1, z1⟩ := k1.cell
  have l1 : w.heap.size + 1 + 1 < w2.heap.size := K32.out.lt
  have l2 : w.heap.size + 1 < w2.heap.size := by omega
  have l3 : w.heap.size < w2.heap.size := by omega
  clear hb2 k1 c2 z2 K1 K2 K3
  go_wp2_with fail
  have hD := heap_alloc_new w2 (.cells #[.string text, .int .i64 a, .string killed, .bool killing, bv, .int .i64 place, .string begun, .slice A h.length c] 82)
  have HD := Lib.hid hD
  have K13 := Lib.hid ((Below.heap_alloc w2 (.cells #[.string text, .int .i64 a, .string killed, .bool killing, bv, .int .i64 place, .string begun, .slice A h.length c] 82) _ K12.out.lt).trans K12.out)
  have K23 := Lib.hid ((Below.heap_alloc w2 (.cells #[.string text, .int .i64 a, .string killed, .bool killing, bv, .int .i64 place, .string begun, .slice A h.length c] 82) _ K22.out.lt).trans K22.out)
  have K33 := Lib.hid ((Below.heap_alloc w2 (.cells #[.string text, .int .i64 a, .string killed, .bool killing, bv, .int .i64 place, .string begun, .slice A h.length c] 82) _ K32.out.lt).trans K32.out)
  have HB3 := Lib.hid (HB2.out.alloc HB2.out.size (.cells #[.string text, .int .i64 a, .string killed, .bool killing, bv, .int .i64 place, .string begun, .slice A h.length c] 82))
  have hz3 : w2.heap.size < (w2.alloc (.cells #[.string text, .int .i64 a, .string killed, .bool killing, bv, .int .i64 place, .string begun, .slice A h.length c] 82)).heap.size := by simp
  have HZ3 := Lib.hid hz3
  clear hD hz3 c1 z1
  generalize w2.alloc (.cells #[.string text, .int .i64 a, .string killed, .bool killing, bv, .int .i64 place, .string begun, .slice A h.length c] 82) = w3 at *
  refine (HC.out _ HB3.out).mono ?_
  rintro e w4 ⟨v4, rfl, ho4, hb4⟩
  have HB4 := Lib.hid (HB3.out.trans (hb4.mono HB3.out.size))
  have HS4 := Lib.hid hb4.size
  have hd4 := (hb4.block w2.heap.size HZ3.out).trans HD.out
  have hk4 := (hb4.block (w.heap.size + 1) (by have := HZ3.out; omega)).trans K23.out
  have hl4 := (hb4.block w.heap.size (by have := HZ3.out; omega)).trans K13.out
  have hr4 := (hb4.block (w.heap.size + 1 + 1) (by have := HZ3.out; omega)).trans K33.out
  obtain ⟨cd, zd⟩ := Box.cell (b := w2.heap.size) hd4
  obtain ⟨ck, zk⟩ := Blk.cell (t := 42) hk4
  have HD4 := Lib.hid hd4
  have HK4 := Lib.hid hk4
  have HL4 := Lib.hid hl4
  have HR4 := Lib.hid hr4
  obtain ⟨p4, q4, rfl⟩ := own_slice ho4
  have HO4 := Lib.hid ho4
  clear hd4 hk4 hl4 hr4 ho4 hb4 HD K13 K23 K33 HB3
  go_wp2_with fail
  have hW4 : Turned w4 w2.heap.size (edC ⟨text, a, killed, false⟩ (.slice p4 before.length q4) place begun (.slice A h.length c)) ((w4.setCell ⟨w2.heap.size, 4, none⟩ (.slice p4 before.length q4)).setCell ⟨w2.heap.size, 3, none⟩ (.bool false)) :=
    ((Turned.refl (show Box w4 w2.heap.size (edC ⟨text, a, killed, killing⟩ bv place begun (.slice A h.length c)) from HD4.out)).set 4 _).set 3 _
  have ho4' := ownsRow_setCell_below (ownsRow_setCell_below HO4.out (a := ⟨w2.heap.size, 4, none⟩) HZ3.out (.slice p4 before.length q4)) (a := ⟨w2.heap.size, 3, none⟩) HZ3.out (.bool false)
  generalize (w4.setCell ⟨w2.heap.size, 4, none⟩ (.slice p4 before.length q4)).setCell ⟨w2.heap.size, 3, none⟩ (.bool false) = W4 at *
  have HR4B := Lib.hid (show Blk W4 (w.heap.size + 1 + 1) 37 zeroL from Blk.turned (show Blk w4 (w.heap.size + 1 + 1) 37 zeroL from HR4.out) hW4 (by omega))
  have HB4B := Lib.hid (HB4.out.trans (hW4.below (by omega) HB4.out.size))
  have HK4B := Lib.hid (show Blk W4 (w.heap.size + 1) 42 #[.int .i64 kind, .int .i64 byte] from Blk.turned (show Blk w4 (w.heap.size + 1) 42 #[.int .i64 kind, .int .i64 byte] from HK4.out) hW4 (by omega))
  have HL4B := Lib.hid (show Blk W4 w.heap.size 37 #[.string text, .int .i64 a, .string killed, .bool killing, bv, .int .i64 place, .string begun] from Blk.turned (show Blk w4 w.heap.size 37 #[.string text, .int .i64 a, .string killed, .bool killing, bv, .int .i64 place, .string begun] from HL4.out) hW4 (by omega))
  have HS4B := Lib.hid (Nat.le_trans HS4.out hW4.1.size)
  have HBX := Lib.hid hW4.2
  have HO := Lib.hid ho4'
  clear hW4 ho4' cd zd ck zk HD4 HK4 HL4 HR4 HO4
  rcases nil_or_snoc before with rfl | ⟨pre, last, rfl⟩
  · have HFIN := Lib.hid (show keyL ⟨text, a, killed, killing, [], place, begun⟩ h kind byte = ⟨text, a, killed, false, [], place, begun⟩ by rw [HKD.out]; rfl)
    refine (undo_none _ _ _ _ _ _ _ _ HBX.out).mono ?_
    rintro e w5 ⟨rfl, hT⟩
    have HX5 := Lib.hid hT.2
    have HR5 := Lib.hid (show Blk w5 (w.heap.size + 1 + 1) 37 zeroL from HR4B.out.turned hT (by omega))
    have HB5 := Lib.hid (HB4B.out.trans (hT.below (by omega) HB4B.out.size))
    have HT5 := Lib.hid hT
    obtain ⟨cc5, zz5⟩ := hT.2.cell
    clear hT
    go_wp2_with fail
    refine (cloneStates_any _ _ _ (show ES w5 (.slice p4 0 q4) [] from ⟨p4, q4, rfl, Nat.zero_le _, fun hh => by simp at hh⟩) (by simp)).mono ?_
    rintro e w6 ⟨v6, rfl, ho6, hb6⟩
    have hd6 := (hb6.block w2.heap.size HX5.out.lt).trans HX5.out
    have hr6 := (hb6.block (w.heap.size + 1 + 1) HR5.out.lt).trans HR5.out
    have HB6 := Lib.hid (HB5.out.trans (hb6.mono HB5.out.size))
    have HZ6 := Lib.hid (And.intro HX5.out.lt HR5.out.lt)
    obtain ⟨cd6, zd6⟩ := Box.cell (b := w2.heap.size) hd6
    obtain ⟨cr6, zr6⟩ := Blk.cell (t := 37) hr6
    have HR6 := Lib.hid (show Blk w6 (w.heap.size + 1 + 1) 37 zeroL from hr6)
    obtain ⟨p6, q6, rfl⟩ := own_slice ho6
    have HO6 := Lib.hid ho6
    have hne : w.heap.size + 1 + 1 ≠ w2.heap.size := by omega
    clear hd6 hr6 ho6 hb6 cc5 zz5
    go_wp2
    refine press_end ((((((((HR6.out.far hne _).set_ 0 _).set_ 1 _).set_ 2 _).set_ 3 _).set_ 4 _).set_ 5 _).set_ 6 _) rfl rfl ?_
    rw [HFIN.out]
    refine ⟨.slice p6 _ q6, rfl, ES.of_own (ownsRow_setCell_below (ownsRow_setCell_below (ownsRow_setCell_below (ownsRow_setCell_below (ownsRow_setCell_below (ownsRow_setCell_below (ownsRow_setCell_below (ownsRow_setCell_below HO6.out HZ6.out.1 _) HZ6.out.2 _) HZ6.out.2 _) HZ6.out.2 _) HZ6.out.2 _) HZ6.out.2 _) HZ6.out.2 _) HZ6.out.2 _), (fun k hk => Nat.le_trans HB5.out.size (HO6.out.lt k hk).1), ?_⟩
    exact (((((((HB6.out.setCell (by show w.heap.size ≤ w2.heap.size; omega) _).setCell (by simp; omega) _).setCell (by simp; omega) _).setCell (by simp; omega) _).setCell (by simp; omega) _).setCell (by simp; omega) _).setCell (by simp; omega) _).setCell (by simp; omega) _
  · have hlen : (pre ++ [last]).length = pre.length + 1 := by simp
    have hst := hG.out.state last (by simp)
    obtain ⟨t, k'⟩ := last
    obtain ⟨k, rfl, hk1, hk2⟩ := hst
    have HFIN := Lib.hid (show keyL ⟨text, a, killed, killing, pre ++ [(t, (k : Int))], place, begun⟩ h kind byte = ⟨t, k, killed, false, pre, place, begun⟩ by rw [HKD.out]; simp [keyL, undoL])
    have hES : ES W4 (.slice p4 (pre ++ [(t, (k : Int))]).length q4) (pre ++ [(t, (k : Int))]) := ES.of_own HO.out
    obtain ⟨A2, c2', e2, hcc, hcell⟩ := hES
    injection e2 with e2a e2b e2c
    subst e2a
    subst e2c
    obtain ⟨b2, off2, rfl, hlt2, hcell⟩ := hcell (by simp)
    have hc := hcell pre.length (by simp)
    rw [List.getElem_append_right (Nat.le_refl _)] at hc
    simp only [Nat.sub_self, List.getElem_cons_zero] at hc
    have hpl : pre.length ≤ 100 := by have := hG.out.len; simp at this; omega
    rw [hlen] at hcc
    have HBX2 := HBX.out
    rw [hlen] at HBX2
    refine (undo_some ⟨text, a, killed, false⟩ (.slice A h.length c) b2 off2 pre.length q4 k t place begun w2.heap.size W4 HBX2 hpl hcc hc.1 hc.2).mono ?_
    rintro e w5 ⟨rfl, hT⟩
    have hES5 : ES w5 (.slice (some ⟨b2, off2, none⟩) pre.length q4) pre := ES.prefix (ES.of_own (own_turned HO.out hT HZ3.out))
    have HES5 := Lib.hid hES5
    clear hES5 hcell hc HBX2
    have HX5 := Lib.hid hT.2
    have HR5 := Lib.hid (show Blk w5 (w.heap.size + 1 + 1) 37 zeroL from HR4B.out.turned hT (by omega))
    have HB5 := Lib.hid (HB4B.out.trans (hT.below (by omega) HB4B.out.size))
    have HT5 := Lib.hid hT
    obtain ⟨cc5, zz5⟩ := hT.2.cell
    clear hT
    go_wp2_with fail
    refine (cloneStates_any _ _ _ HES5.out (by omega)).mono ?_
    rintro e w6 ⟨v6, rfl, ho6, hb6⟩
    have hd6 := (hb6.block w2.heap.size HX5.out.lt).trans HX5.out
    have hr6 := (hb6.block (w.heap.size + 1 + 1) HR5.out.lt).trans HR5.out
    have HB6 := Lib.hid (HB5.out.trans (hb6.mono HB5.out.size))
    have HZ6 := Lib.hid (And.intro HX5.out.lt HR5.out.lt)
    obtain ⟨cd6, zd6⟩ := Box.cell (b := w2.heap.size) hd6
    obtain ⟨cr6, zr6⟩ := Blk.cell (t := 37) hr6
    have HR6 := Lib.hid (show Blk w6 (w.heap.size + 1 + 1) 37 zeroL from hr6)
    obtain ⟨p6, q6, rfl⟩ := own_slice ho6
    have HO6 := Lib.hid ho6
    have hne : w.heap.size + 1 + 1 ≠ w2.heap.size := by omega
    clear hd6 hr6 ho6 hb6 cc5 zz5
    go_wp2
    refine press_end ((((((((HR6.out.far hne _).set_ 0 _).set_ 1 _).set_ 2 _).set_ 3 _).set_ 4 _).set_ 5 _).set_ 6 _) rfl rfl ?_
    rw [HFIN.out]
    refine ⟨.slice p6 _ q6, rfl, ES.of_own (ownsRow_setCell_below (ownsRow_setCell_below (ownsRow_setCell_below (ownsRow_setCell_below (ownsRow_setCell_below (ownsRow_setCell_below (ownsRow_setCell_below (ownsRow_setCell_below HO6.out HZ6.out.1 _) HZ6.out.2 _) HZ6.out.2 _) HZ6.out.2 _) HZ6.out.2 _) HZ6.out.2 _) HZ6.out.2 _) HZ6.out.2 _), (fun k hk => Nat.le_trans HB5.out.size (HO6.out.lt k hk).1), ?_⟩
    exact (((((((HB6.out.setCell (by show w.heap.size ≤ w2.heap.size; omega) _).setCell (by simp; omega) _).setCell (by simp; omega) _).setCell (by simp; omega) _).setCell (by simp; omega) _).setCell (by simp; omega) _).setCell (by simp; omega) _).setCell (by simp; omega) _

set_option maxRecDepth 100000 in
set_option maxHeartbeats 3200000 in
theorem press_up (l : EL) (bv hv : Value) (h : List ByteArray) (kind byte : Int) (w : World) (hb0 : ES w bv l.before) (hh : SL w hv h) (hf : Fit l) (hn : h.length ≤ 9223372036854775807) (hs : ∀ s ∈ h, s.size ≤ maxLen) (h0 : pressedE l h h.length = 0) (h1 : keyE kind byte = 0) (hk : kind = 20) :
    Calls Tryz.prog 14 #[elV2 l bv, hv, .agg #[.int .i64 kind, .int .i64 byte]] w (PressPost w (pressL l h kind byte)) := by
  have e19 : (kind == 19) = false := by rw [hk]; rfl
  have e20 : (kind == 20) = true := by rw [hk]; rfl
  have e21 : (kind == 21) = false := by rw [hk]; rfl
  have HKD := Lib.hid hk
  clear hk
  have hP := Lib.hid (fun W (hb : Below w.heap.size w W) => pressed_any l bv h hv h.length W (hb0.keep hb) (hh.keep hb) hf hn hs)
  have hG := Lib.hid (good_of h0)
  rw [h0] at hP
  have hK := Lib.hid (fun W => rightKey_any kind byte W)
  rw [h1] at hK
  rw [pressL_ok h0 h1]
  have HL := Lib.hid hh
  have HC := Lib.hid (fun W (hb : Below w.heap.size w W) => cloneStates_any l.before bv W (hb0.keep hb) hf.2.2.2.1)
  obtain ⟨A, c, rfl, hc, hcells⟩ := hh
  have HB := Lib.hid (fun o1 o2 o3 => (((Below.refl _ w).alloc (Nat.le_refl _) o1).alloc (by simp) o2).alloc (by simp; omega) o3)
  clear h0 h1 hcells hf hs hb0
  obtain ⟨text, a, killed, killing, before, place, begun⟩ := l
  obtain ⟨a, rfl⟩ : ∃ n : Nat, a = (n : Int) := ⟨a.toNat, hG.out.at_⟩
  rw [show (⟨text, (a : Int), killed, killing, before, place, begun⟩ : EL).at'.toNat = a from Int.toNat_natCast a] at hG
  go_enter Tryz.func14, Tryz.ntmps14
  go_wp2_with fail
  have hbx := three_boxes w #[.string text, .int .i64 a, .string killed, .bool killing, bv, .int .i64 place, .string begun] #[.int .i64 kind, .int .i64 byte] zeroL 37 42 37
  obtain ⟨x1, x2, x3⟩ := hbx
  have X3 := Lib.hid x3
  have X2 := Lib.hid x2
  have X1 := Lib.hid x1
  clear x1 x2 x3
  refine (hP.out _ (HB.out _ _ _)).mono ?_
  rintro e w1 ⟨rfl, hb1⟩
  have HB1 := Lib.hid ((HB.out _ _ _).trans (hb1.mono (HB.out _ _ _).size))
  have K3 := Lib.hid (X3.out.below hb1 X3.out.lt)
  have K1 := Lib.hid (X1.out.below hb1 X1.out.lt)
  have k2 := X2.out.below hb1 X2.out.lt
  have K2 := Lib.hid k2
  obtain ⟨c2, z2⟩ := k2.cell
  clear hb1 k2 X3 X2 X1
  go_wp2_with fail
  refine (hK.out _).mono ?_
  rintro e w2 ⟨rfl, hb2⟩
  have HB2 := Lib.hid (HB1.out.trans (hb2.mono HB1.out.size))
  have K32 := Lib.hid (K3.out.below hb2 K3.out.lt)
  have K22 := Lib.hid (K2.out.below hb2 K2.out.lt)
  have k1 := K1.out.below hb2 K1.out.lt
  have K12 := Lib.hid k1
  obtain ⟨c1, z1⟩ := k1.cell
  have l1 : w.heap.size + 1 + 1 < w2.heap.size := K32.out.lt
  have l2 : w.heap.size + 1 < w2.heap.size := by omega
  have l3 : w.heap.size < w2.heap.size := by omega
  clear hb2 k1 c2 z2 K1 K2 K3
  go_wp2_with fail
  have hD := heap_alloc_new w2 (.cells #[.string text, .int .i64 a, .string killed, .bool killing, bv, .int .i64 place, .string begun, .slice A h.length c] 82)
  have HD := Lib.hid hD
  have K13 := Lib.hid ((Below.heap_alloc w2 (.cells #[.string text, .int .i64 a, .string killed, .bool killing, bv, .int .i64 place, .string begun, .slice A h.length c] 82) _ K12.out.lt).trans K12.out)
  have K23 := Lib.hid ((Below.heap_alloc w2 (.cells #[.string text, .int .i64 a, .string killed, .bool killing, bv, .int .i64 place, .string begun, .slice A h.length c] 82) _ K22.out.lt).trans K22.out)
  have K33 := Lib.hid ((Below.heap_alloc w2 (.cells #[.string text, .int .i64 a, .string killed, .bool killing, bv, .int .i64 place, .string begun, .slice A h.length c] 82) _ K32.out.lt).trans K32.out)
  have HB3 := Lib.hid (HB2.out.alloc HB2.out.size (.cells #[.string text, .int .i64 a, .string killed, .bool killing, bv, .int .i64 place, .string begun, .slice A h.length c] 82))
  have hz3 : w2.heap.size < (w2.alloc (.cells #[.string text, .int .i64 a, .string killed, .bool killing, bv, .int .i64 place, .string begun, .slice A h.length c] 82)).heap.size := by simp
  have HZ3 := Lib.hid hz3
  clear hD hz3 c1 z1
  generalize w2.alloc (.cells #[.string text, .int .i64 a, .string killed, .bool killing, bv, .int .i64 place, .string begun, .slice A h.length c] 82) = w3 at *
  refine (HC.out _ HB3.out).mono ?_
  rintro e w4 ⟨v4, rfl, ho4, hb4⟩
  have HB4 := Lib.hid (HB3.out.trans (hb4.mono HB3.out.size))
  have HS4 := Lib.hid hb4.size
  have hd4 := (hb4.block w2.heap.size HZ3.out).trans HD.out
  have hk4 := (hb4.block (w.heap.size + 1) (by have := HZ3.out; omega)).trans K23.out
  have hl4 := (hb4.block w.heap.size (by have := HZ3.out; omega)).trans K13.out
  have hr4 := (hb4.block (w.heap.size + 1 + 1) (by have := HZ3.out; omega)).trans K33.out
  obtain ⟨cd, zd⟩ := Box.cell (b := w2.heap.size) hd4
  obtain ⟨ck, zk⟩ := Blk.cell (t := 42) hk4
  have HD4 := Lib.hid hd4
  have HK4 := Lib.hid hk4
  have HL4 := Lib.hid hl4
  have HR4 := Lib.hid hr4
  obtain ⟨p4, q4, rfl⟩ := own_slice ho4
  have HO4 := Lib.hid ho4
  clear hd4 hk4 hl4 hr4 ho4 hb4 HD K13 K23 K33 HB3
  go_wp2_with fail
  have hW4 : Turned w4 w2.heap.size (edC ⟨text, a, killed, false⟩ (.slice p4 before.length q4) place begun (.slice A h.length c)) ((w4.setCell ⟨w2.heap.size, 4, none⟩ (.slice p4 before.length q4)).setCell ⟨w2.heap.size, 3, none⟩ (.bool false)) :=
    ((Turned.refl (show Box w4 w2.heap.size (edC ⟨text, a, killed, killing⟩ bv place begun (.slice A h.length c)) from HD4.out)).set 4 _).set 3 _
  have ho4' := ownsRow_setCell_below (ownsRow_setCell_below HO4.out (a := ⟨w2.heap.size, 4, none⟩) HZ3.out (.slice p4 before.length q4)) (a := ⟨w2.heap.size, 3, none⟩) HZ3.out (.bool false)
  generalize (w4.setCell ⟨w2.heap.size, 4, none⟩ (.slice p4 before.length q4)).setCell ⟨w2.heap.size, 3, none⟩ (.bool false) = W4 at *
  have HR4B := Lib.hid (show Blk W4 (w.heap.size + 1 + 1) 37 zeroL from Blk.turned (show Blk w4 (w.heap.size + 1 + 1) 37 zeroL from HR4.out) hW4 (by omega))
  have HB4B := Lib.hid (HB4.out.trans (hW4.below (by omega) HB4.out.size))
  have HK4B := Lib.hid (show Blk W4 (w.heap.size + 1) 42 #[.int .i64 kind, .int .i64 byte] from Blk.turned (show Blk w4 (w.heap.size + 1) 42 #[.int .i64 kind, .int .i64 byte] from HK4.out) hW4 (by omega))
  have HL4B := Lib.hid (show Blk W4 w.heap.size 37 #[.string text, .int .i64 a, .string killed, .bool killing, bv, .int .i64 place, .string begun] from Blk.turned (show Blk w4 w.heap.size 37 #[.string text, .int .i64 a, .string killed, .bool killing, bv, .int .i64 place, .string begun] from HL4.out) hW4 (by omega))
  have HS4B := Lib.hid (Nat.le_trans HS4.out hW4.1.size)
  have HBX := Lib.hid hW4.2
  have HO := Lib.hid ho4'
  clear hW4 ho4' cd zd ck zk HD4 HK4 HL4 HR4 HO4
  obtain ⟨goal, hgo⟩ : ∃ g, place + 1 = g := ⟨_, rfl⟩
  refine (place_any ⟨text, a, killed, false⟩ (.slice p4 before.length q4) (.slice A h.length c) place 1 goal begun w2.heap.size W4 w HBX.out h HL.out HB4B.out (by omega) hG.out.hist hG.out.p0 (by have h1 : place ≤ h.length := hG.out.p1; have h2 := hG.out.hist; omega) (by omega) (by omega) hgo hG.out.text).mono ?_
  rintro e w5 ⟨rfl, hT⟩
  have hkl : keyL ⟨text, a, killed, killing, before, place, begun⟩ h kind byte = placeL ⟨text, a, killed, false, before, place, begun⟩ h goal := by
    rw [HKD.out, ← hgo]; rfl
  cases hw : withinB goal 0 h.length
  · rw [if_pos hw] at hT
    have HFIN := Lib.hid (show keyL ⟨text, a, killed, killing, before, place, begun⟩ h kind byte = ⟨text, a, killed, false, before, place, begun⟩ by rw [hkl]; unfold placeL; rw [if_pos hw])
    have HES5 := Lib.hid (ES.of_own (own_turned HO.out hT HZ3.out))
    clear hkl hgo hw
    have HX5 := Lib.hid hT.2
    have HR5 := Lib.hid (show Blk w5 (w.heap.size + 1 + 1) 37 zeroL from HR4B.out.turned hT (by omega))
    have HB5 := Lib.hid (HB4B.out.trans (hT.below (by omega) HB4B.out.size))
    have HT5 := Lib.hid hT
    obtain ⟨cc5, zz5⟩ := hT.2.cell
    clear hT
    go_wp2_with fail
    refine (cloneStates_any _ _ _ HES5.out (by have := hG.out.len; simp at this; omega)).mono ?_
    rintro e w6 ⟨v6, rfl, ho6, hb6⟩
    have hd6 := (hb6.block w2.heap.size HX5.out.lt).trans HX5.out
    have hr6 := (hb6.block (w.heap.size + 1 + 1) HR5.out.lt).trans HR5.out
    have HB6 := Lib.hid (HB5.out.trans (hb6.mono HB5.out.size))
    have HZ6 := Lib.hid (And.intro HX5.out.lt HR5.out.lt)
    obtain ⟨cd6, zd6⟩ := Box.cell (b := w2.heap.size) hd6
    obtain ⟨cr6, zr6⟩ := Blk.cell (t := 37) hr6
    have HR6 := Lib.hid (show Blk w6 (w.heap.size + 1 + 1) 37 zeroL from hr6)
    obtain ⟨p6, q6, rfl⟩ := own_slice ho6
    have HO6 := Lib.hid ho6
    have hne : w.heap.size + 1 + 1 ≠ w2.heap.size := by omega
    clear hd6 hr6 ho6 hb6 cc5 zz5
    go_wp2
    refine press_end ((((((((HR6.out.far hne _).set_ 0 _).set_ 1 _).set_ 2 _).set_ 3 _).set_ 4 _).set_ 5 _).set_ 6 _) rfl rfl ?_
    rw [HFIN.out]
    refine ⟨.slice p6 _ q6, rfl, ES.of_own (ownsRow_setCell_below (ownsRow_setCell_below (ownsRow_setCell_below (ownsRow_setCell_below (ownsRow_setCell_below (ownsRow_setCell_below (ownsRow_setCell_below (ownsRow_setCell_below HO6.out HZ6.out.1 _) HZ6.out.2 _) HZ6.out.2 _) HZ6.out.2 _) HZ6.out.2 _) HZ6.out.2 _) HZ6.out.2 _) HZ6.out.2 _), (fun k hk => Nat.le_trans HB5.out.size (HO6.out.lt k hk).1), ?_⟩
    exact (((((((HB6.out.setCell (by show w.heap.size ≤ w2.heap.size; omega) _).setCell (by simp; omega) _).setCell (by simp; omega) _).setCell (by simp; omega) _).setCell (by simp; omega) _).setCell (by simp; omega) _).setCell (by simp; omega) _).setCell (by simp; omega) _
  · rw [if_neg (by simp [hw])] at hT
    have hkl2 : keyL ⟨text, a, killed, killing, before, place, begun⟩ h kind byte = ⟨if 0 < goal then h.getD (h.length - goal.toNat) ⟨#[]⟩ else if place = 0 then text else begun, (if 0 < goal then h.getD (h.length - goal.toNat) ⟨#[]⟩ else if place = 0 then text else begun).size, killed, false, [], goal, if place = 0 then text else begun⟩ := by
      rw [hkl]; unfold placeL; rw [if_neg (by simp [hw])]
    generalize (if 0 < goal then h.getD (h.length - goal.toNat) ⟨#[]⟩ else if place = 0 then text else begun) = t2 at *
    generalize (if place = 0 then text else begun) = b2 at *
    have HFIN := Lib.hid hkl2
    clear hkl hkl2 hgo hw
    have HX5 := Lib.hid hT.2
    have HR5 := Lib.hid (show Blk w5 (w.heap.size + 1 + 1) 37 zeroL from HR4B.out.turned hT (by omega))
    have HB5 := Lib.hid (HB4B.out.trans (hT.below (by omega) HB4B.out.size))
    have HT5 := Lib.hid hT
    obtain ⟨cc5, zz5⟩ := hT.2.cell
    clear hT
    go_wp2_with fail
    refine (cloneStates_any _ _ _ (ES.nil w5) (by simp)).mono ?_
    rintro e w6 ⟨v6, rfl, ho6, hb6⟩
    have hd6 := (hb6.block w2.heap.size HX5.out.lt).trans HX5.out
    have hr6 := (hb6.block (w.heap.size + 1 + 1) HR5.out.lt).trans HR5.out
    have HB6 := Lib.hid (HB5.out.trans (hb6.mono HB5.out.size))
    have HZ6 := Lib.hid (And.intro HX5.out.lt HR5.out.lt)
    obtain ⟨cd6, zd6⟩ := Box.cell (b := w2.heap.size) hd6
    obtain ⟨cr6, zr6⟩ := Blk.cell (t := 37) hr6
    have HR6 := Lib.hid (show Blk w6 (w.heap.size + 1 + 1) 37 zeroL from hr6)
    obtain ⟨p6, q6, rfl⟩ := own_slice ho6
    have HO6 := Lib.hid ho6
    have hne : w.heap.size + 1 + 1 ≠ w2.heap.size := by omega
    clear hd6 hr6 ho6 hb6 cc5 zz5
    go_wp2
    refine press_end ((((((((HR6.out.far hne _).set_ 0 _).set_ 1 _).set_ 2 _).set_ 3 _).set_ 4 _).set_ 5 _).set_ 6 _) rfl rfl ?_
    rw [HFIN.out]
    refine ⟨.slice p6 _ q6, rfl, ES.of_own (ownsRow_setCell_below (ownsRow_setCell_below (ownsRow_setCell_below (ownsRow_setCell_below (ownsRow_setCell_below (ownsRow_setCell_below (ownsRow_setCell_below (ownsRow_setCell_below HO6.out HZ6.out.1 _) HZ6.out.2 _) HZ6.out.2 _) HZ6.out.2 _) HZ6.out.2 _) HZ6.out.2 _) HZ6.out.2 _) HZ6.out.2 _), (fun k hk => Nat.le_trans HB5.out.size (HO6.out.lt k hk).1), ?_⟩
    exact (((((((HB6.out.setCell (by show w.heap.size ≤ w2.heap.size; omega) _).setCell (by simp; omega) _).setCell (by simp; omega) _).setCell (by simp; omega) _).setCell (by simp; omega) _).setCell (by simp; omega) _).setCell (by simp; omega) _).setCell (by simp; omega) _

set_option maxRecDepth 100000 in
set_option maxHeartbeats 3200000 in
theorem press_down (l : EL) (bv hv : Value) (h : List ByteArray) (kind byte : Int) (w : World) (hb0 : ES w bv l.before) (hh : SL w hv h) (hf : Fit l) (hn : h.length ≤ 9223372036854775807) (hs : ∀ s ∈ h, s.size ≤ maxLen) (h0 : pressedE l h h.length = 0) (h1 : keyE kind byte = 0) (hk : kind = 21) :
    Calls Tryz.prog 14 #[elV2 l bv, hv, .agg #[.int .i64 kind, .int .i64 byte]] w (PressPost w (pressL l h kind byte)) := by
  have e19 : (kind == 19) = false := by rw [hk]; rfl
  have e20 : (kind == 20) = false := by rw [hk]; rfl
  have e21 : (kind == 21) = true := by rw [hk]; rfl
  have HKD := Lib.hid hk
  clear hk
  have hP := Lib.hid (fun W (hb : Below w.heap.size w W) => pressed_any l bv h hv h.length W (hb0.keep hb) (hh.keep hb) hf hn hs)
  have hG := Lib.hid (good_of h0)
  rw [h0] at hP
  have hK := Lib.hid (fun W => rightKey_any kind byte W)
  rw [h1] at hK
  rw [pressL_ok h0 h1]
  have HL := Lib.hid hh
  have HC := Lib.hid (fun W (hb : Below w.heap.size w W) => cloneStates_any l.before bv W (hb0.keep hb) hf.2.2.2.1)
  obtain ⟨A, c, rfl, hc, hcells⟩ := hh
  have HB := Lib.hid (fun o1 o2 o3 => (((Below.refl _ w).alloc (Nat.le_refl _) o1).alloc (by simp) o2).alloc (by simp; omega) o3)
  clear h0 h1 hcells hf hs hb0
  obtain ⟨text, a, killed, killing, before, place, begun⟩ := l
  obtain ⟨a, rfl⟩ : ∃ n : Nat, a = (n : Int) := ⟨a.toNat, hG.out.at_⟩
  rw [show (⟨text, (a : Int), killed, killing, before, place, begun⟩ : EL).at'.toNat = a from Int.toNat_natCast a] at hG
  go_enter Tryz.func14, Tryz.ntmps14
  go_wp2_with fail
  have hbx := three_boxes w #[.string text, .int .i64 a, .string killed, .bool killing, bv, .int .i64 place, .string begun] #[.int .i64 kind, .int .i64 byte] zeroL 37 42 37
  obtain ⟨x1, x2, x3⟩ := hbx
  have X3 := Lib.hid x3
  have X2 := Lib.hid x2
  have X1 := Lib.hid x1
  clear x1 x2 x3
  refine (hP.out _ (HB.out _ _ _)).mono ?_
  rintro e w1 ⟨rfl, hb1⟩
  have HB1 := Lib.hid ((HB.out _ _ _).trans (hb1.mono (HB.out _ _ _).size))
  have K3 := Lib.hid (X3.out.below hb1 X3.out.lt)
  have K1 := Lib.hid (X1.out.below hb1 X1.out.lt)
  have k2 := X2.out.below hb1 X2.out.lt
  have K2 := Lib.hid k2
  obtain ⟨c2, z2⟩ := k2.cell
  clear hb1 k2 X3 X2 X1
  go_wp2_with fail
  refine (hK.out _).mono ?_
  rintro e w2 ⟨rfl, hb2⟩
  have HB2 := Lib.hid (HB1.out.trans (hb2.mono HB1.out.size))
  have K32 := Lib.hid (K3.out.below hb2 K3.out.lt)
  have K22 := Lib.hid (K2.out.below hb2 K2.out.lt)
  have k1 := K1.out.below hb2 K1.out.lt
  have K12 := Lib.hid k1
  obtain ⟨c1, z1⟩ := k1.cell
  have l1 : w.heap.size + 1 + 1 < w2.heap.size := K32.out.lt
  have l2 : w.heap.size + 1 < w2.heap.size := by omega
  have l3 : w.heap.size < w2.heap.size := by omega
  clear hb2 k1 c2 z2 K1 K2 K3
  go_wp2_with fail
  have hD := heap_alloc_new w2 (.cells #[.string text, .int .i64 a, .string killed, .bool killing, bv, .int .i64 place, .string begun, .slice A h.length c] 82)
  have HD := Lib.hid hD
  have K13 := Lib.hid ((Below.heap_alloc w2 (.cells #[.string text, .int .i64 a, .string killed, .bool killing, bv, .int .i64 place, .string begun, .slice A h.length c] 82) _ K12.out.lt).trans K12.out)
  have K23 := Lib.hid ((Below.heap_alloc w2 (.cells #[.string text, .int .i64 a, .string killed, .bool killing, bv, .int .i64 place, .string begun, .slice A h.length c] 82) _ K22.out.lt).trans K22.out)
  have K33 := Lib.hid ((Below.heap_alloc w2 (.cells #[.string text, .int .i64 a, .string killed, .bool killing, bv, .int .i64 place, .string begun, .slice A h.length c] 82) _ K32.out.lt).trans K32.out)
  have HB3 := Lib.hid (HB2.out.alloc HB2.out.size (.cells #[.string text, .int .i64 a, .string killed, .bool killing, bv, .int .i64 place, .string begun, .slice A h.length c] 82))
  have hz3 : w2.heap.size < (w2.alloc (.cells #[.string text, .int .i64 a, .string killed, .bool killing, bv, .int .i64 place, .string begun, .slice A h.length c] 82)).heap.size := by simp
  have HZ3 := Lib.hid hz3
  clear hD hz3 c1 z1
  generalize w2.alloc (.cells #[.string text, .int .i64 a, .string killed, .bool killing, bv, .int .i64 place, .string begun, .slice A h.length c] 82) = w3 at *
  refine (HC.out _ HB3.out).mono ?_
  rintro e w4 ⟨v4, rfl, ho4, hb4⟩
  have HB4 := Lib.hid (HB3.out.trans (hb4.mono HB3.out.size))
  have HS4 := Lib.hid hb4.size
  have hd4 := (hb4.block w2.heap.size HZ3.out).trans HD.out
  have hk4 := (hb4.block (w.heap.size + 1) (by have := HZ3.out; omega)).trans K23.out
  have hl4 := (hb4.block w.heap.size (by have := HZ3.out; omega)).trans K13.out
  have hr4 := (hb4.block (w.heap.size + 1 + 1) (by have := HZ3.out; omega)).trans K33.out
  obtain ⟨cd, zd⟩ := Box.cell (b := w2.heap.size) hd4
  obtain ⟨ck, zk⟩ := Blk.cell (t := 42) hk4
  have HD4 := Lib.hid hd4
  have HK4 := Lib.hid hk4
  have HL4 := Lib.hid hl4
  have HR4 := Lib.hid hr4
  obtain ⟨p4, q4, rfl⟩ := own_slice ho4
  have HO4 := Lib.hid ho4
  clear hd4 hk4 hl4 hr4 ho4 hb4 HD K13 K23 K33 HB3
  go_wp2_with fail
  have hW4 : Turned w4 w2.heap.size (edC ⟨text, a, killed, false⟩ (.slice p4 before.length q4) place begun (.slice A h.length c)) ((w4.setCell ⟨w2.heap.size, 4, none⟩ (.slice p4 before.length q4)).setCell ⟨w2.heap.size, 3, none⟩ (.bool false)) :=
    ((Turned.refl (show Box w4 w2.heap.size (edC ⟨text, a, killed, killing⟩ bv place begun (.slice A h.length c)) from HD4.out)).set 4 _).set 3 _
  have ho4' := ownsRow_setCell_below (ownsRow_setCell_below HO4.out (a := ⟨w2.heap.size, 4, none⟩) HZ3.out (.slice p4 before.length q4)) (a := ⟨w2.heap.size, 3, none⟩) HZ3.out (.bool false)
  generalize (w4.setCell ⟨w2.heap.size, 4, none⟩ (.slice p4 before.length q4)).setCell ⟨w2.heap.size, 3, none⟩ (.bool false) = W4 at *
  have HR4B := Lib.hid (show Blk W4 (w.heap.size + 1 + 1) 37 zeroL from Blk.turned (show Blk w4 (w.heap.size + 1 + 1) 37 zeroL from HR4.out) hW4 (by omega))
  have HB4B := Lib.hid (HB4.out.trans (hW4.below (by omega) HB4.out.size))
  have HK4B := Lib.hid (show Blk W4 (w.heap.size + 1) 42 #[.int .i64 kind, .int .i64 byte] from Blk.turned (show Blk w4 (w.heap.size + 1) 42 #[.int .i64 kind, .int .i64 byte] from HK4.out) hW4 (by omega))
  have HL4B := Lib.hid (show Blk W4 w.heap.size 37 #[.string text, .int .i64 a, .string killed, .bool killing, bv, .int .i64 place, .string begun] from Blk.turned (show Blk w4 w.heap.size 37 #[.string text, .int .i64 a, .string killed, .bool killing, bv, .int .i64 place, .string begun] from HL4.out) hW4 (by omega))
  have HS4B := Lib.hid (Nat.le_trans HS4.out hW4.1.size)
  have HBX := Lib.hid hW4.2
  have HO := Lib.hid ho4'
  clear hW4 ho4' cd zd ck zk HD4 HK4 HL4 HR4 HO4
  obtain ⟨goal, hgo⟩ : ∃ g, place + (-1) = g := ⟨_, rfl⟩
  refine (place_any ⟨text, a, killed, false⟩ (.slice p4 before.length q4) (.slice A h.length c) place (-1) goal begun w2.heap.size W4 w HBX.out h HL.out HB4B.out (by omega) hG.out.hist hG.out.p0 (by have h1 : place ≤ h.length := hG.out.p1; have h2 := hG.out.hist; omega) (by omega) (by omega) hgo hG.out.text).mono ?_
  rintro e w5 ⟨rfl, hT⟩
  have hkl : keyL ⟨text, a, killed, killing, before, place, begun⟩ h kind byte = placeL ⟨text, a, killed, false, before, place, begun⟩ h goal := by
    rw [HKD.out, ← hgo]; rfl
  cases hw : withinB goal 0 h.length
  · rw [if_pos hw] at hT
    have HFIN := Lib.hid (show keyL ⟨text, a, killed, killing, before, place, begun⟩ h kind byte = ⟨text, a, killed, false, before, place, begun⟩ by rw [hkl]; unfold placeL; rw [if_pos hw])
    have HES5 := Lib.hid (ES.of_own (own_turned HO.out hT HZ3.out))
    clear hkl hgo hw
    have HX5 := Lib.hid hT.2
    have HR5 := Lib.hid (show Blk w5 (w.heap.size + 1 + 1) 37 zeroL from HR4B.out.turned hT (by omega))
    have HB5 := Lib.hid (HB4B.out.trans (hT.below (by omega) HB4B.out.size))
    have HT5 := Lib.hid hT
    obtain ⟨cc5, zz5⟩ := hT.2.cell
    clear hT
    go_wp2_with fail
    refine (cloneStates_any _ _ _ HES5.out (by have := hG.out.len; simp at this; omega)).mono ?_
    rintro e w6 ⟨v6, rfl, ho6, hb6⟩
    have hd6 := (hb6.block w2.heap.size HX5.out.lt).trans HX5.out
    have hr6 := (hb6.block (w.heap.size + 1 + 1) HR5.out.lt).trans HR5.out
    have HB6 := Lib.hid (HB5.out.trans (hb6.mono HB5.out.size))
    have HZ6 := Lib.hid (And.intro HX5.out.lt HR5.out.lt)
    obtain ⟨cd6, zd6⟩ := Box.cell (b := w2.heap.size) hd6
    obtain ⟨cr6, zr6⟩ := Blk.cell (t := 37) hr6
    have HR6 := Lib.hid (show Blk w6 (w.heap.size + 1 + 1) 37 zeroL from hr6)
    obtain ⟨p6, q6, rfl⟩ := own_slice ho6
    have HO6 := Lib.hid ho6
    have hne : w.heap.size + 1 + 1 ≠ w2.heap.size := by omega
    clear hd6 hr6 ho6 hb6 cc5 zz5
    go_wp2
    refine press_end ((((((((HR6.out.far hne _).set_ 0 _).set_ 1 _).set_ 2 _).set_ 3 _).set_ 4 _).set_ 5 _).set_ 6 _) rfl rfl ?_
    rw [HFIN.out]
    refine ⟨.slice p6 _ q6, rfl, ES.of_own (ownsRow_setCell_below (ownsRow_setCell_below (ownsRow_setCell_below (ownsRow_setCell_below (ownsRow_setCell_below (ownsRow_setCell_below (ownsRow_setCell_below (ownsRow_setCell_below HO6.out HZ6.out.1 _) HZ6.out.2 _) HZ6.out.2 _) HZ6.out.2 _) HZ6.out.2 _) HZ6.out.2 _) HZ6.out.2 _) HZ6.out.2 _), (fun k hk => Nat.le_trans HB5.out.size (HO6.out.lt k hk).1), ?_⟩
    exact (((((((HB6.out.setCell (by show w.heap.size ≤ w2.heap.size; omega) _).setCell (by simp; omega) _).setCell (by simp; omega) _).setCell (by simp; omega) _).setCell (by simp; omega) _).setCell (by simp; omega) _).setCell (by simp; omega) _).setCell (by simp; omega) _
  · rw [if_neg (by simp [hw])] at hT
    have hkl2 : keyL ⟨text, a, killed, killing, before, place, begun⟩ h kind byte = ⟨if 0 < goal then h.getD (h.length - goal.toNat) ⟨#[]⟩ else if place = 0 then text else begun, (if 0 < goal then h.getD (h.length - goal.toNat) ⟨#[]⟩ else if place = 0 then text else begun).size, killed, false, [], goal, if place = 0 then text else begun⟩ := by
      rw [hkl]; unfold placeL; rw [if_neg (by simp [hw])]
    generalize (if 0 < goal then h.getD (h.length - goal.toNat) ⟨#[]⟩ else if place = 0 then text else begun) = t2 at *
    generalize (if place = 0 then text else begun) = b2 at *
    have HFIN := Lib.hid hkl2
    clear hkl hkl2 hgo hw
    have HX5 := Lib.hid hT.2
    have HR5 := Lib.hid (show Blk w5 (w.heap.size + 1 + 1) 37 zeroL from HR4B.out.turned hT (by omega))
    have HB5 := Lib.hid (HB4B.out.trans (hT.below (by omega) HB4B.out.size))
    have HT5 := Lib.hid hT
    obtain ⟨cc5, zz5⟩ := hT.2.cell
    clear hT
    go_wp2_with fail
    refine (cloneStates_any _ _ _ (ES.nil w5) (by simp)).mono ?_
    rintro e w6 ⟨v6, rfl, ho6, hb6⟩
    have hd6 := (hb6.block w2.heap.size HX5.out.lt).trans HX5.out
    have hr6 := (hb6.block (w.heap.size + 1 + 1) HR5.out.lt).trans HR5.out
    have HB6 := Lib.hid (HB5.out.trans (hb6.mono HB5.out.size))
    have HZ6 := Lib.hid (And.intro HX5.out.lt HR5.out.lt)
    obtain ⟨cd6, zd6⟩ := Box.cell (b := w2.heap.size) hd6
    obtain ⟨cr6, zr6⟩ := Blk.cell (t := 37) hr6
    have HR6 := Lib.hid (show Blk w6 (w.heap.size + 1 + 1) 37 zeroL from hr6)
    obtain ⟨p6, q6, rfl⟩ := own_slice ho6
    have HO6 := Lib.hid ho6
    have hne : w.heap.size + 1 + 1 ≠ w2.heap.size := by omega
    clear hd6 hr6 ho6 hb6 cc5 zz5
    go_wp2
    refine press_end ((((((((HR6.out.far hne _).set_ 0 _).set_ 1 _).set_ 2 _).set_ 3 _).set_ 4 _).set_ 5 _).set_ 6 _) rfl rfl ?_
    rw [HFIN.out]
    refine ⟨.slice p6 _ q6, rfl, ES.of_own (ownsRow_setCell_below (ownsRow_setCell_below (ownsRow_setCell_below (ownsRow_setCell_below (ownsRow_setCell_below (ownsRow_setCell_below (ownsRow_setCell_below (ownsRow_setCell_below HO6.out HZ6.out.1 _) HZ6.out.2 _) HZ6.out.2 _) HZ6.out.2 _) HZ6.out.2 _) HZ6.out.2 _) HZ6.out.2 _) HZ6.out.2 _), (fun k hk => Nat.le_trans HB5.out.size (HO6.out.lt k hk).1), ?_⟩
    exact (((((((HB6.out.setCell (by show w.heap.size ≤ w2.heap.size; omega) _).setCell (by simp; omega) _).setCell (by simp; omega) _).setCell (by simp; omega) _).setCell (by simp; omega) _).setCell (by simp; omega) _).setCell (by simp; omega) _).setCell (by simp; omega) _

end Go.Proofs.YtokmiommhfbkeaaGreatDoor
