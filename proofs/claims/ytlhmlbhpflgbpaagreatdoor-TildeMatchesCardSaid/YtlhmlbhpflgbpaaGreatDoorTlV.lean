/- TildeMatches, the reference: value, for a name. -/
import Derived.Test.YtlhmlbhpflgbpaaGreatDoorTlS
namespace Go.Proofs.YtlhmlbhpflgbpaaGreatDoor
open Go.RowKit

/-- a text that is no sign and no number -/
structure NameT (t : ByteArray) : Prop where
  a : (t.toList == [64]) = false
  b : (t.toList == [42]) = false
  c : (t.toList == [35]) = false
  d : (t.toList == [63]) = false
  e : (t.toList == [45]) = false
  f : (t.toList == [36]) = false
  g : (t.toList == [33]) = false
  h : (t.toList == [48]) = false
  pos : 0 < t.size
  dig : 57 < t[0].toNat
def ValP (L : List VarV) (t : ByteArray) (w : World) (e : Ending) (w' : World) : Prop := (match hasV L t with
  | false => e = .returned (.tuple #[.slice none 0 0, .bool false])
  | true => ∃ g, e = .returned (.tuple #[.slice (some ⟨g, 0, none⟩) 1 1, .bool true]) ∧ w'.cell? ⟨g, 0, none⟩ = some (.string (getD L t).vl) ∧ g < w'.heap.size) ∧ Below w.heap.size w w'
set_option maxRecDepth 100000 in
set_option maxHeartbeats 3200000 in
theorem value_any (L : List VarV) (t : ByteArray) (ht : NameT t) (A : Option Addr) (n c b : Nat) (w : World) (hc : w.cell? ⟨b, 2, none⟩ = some (.slice A n c)) (hb : b < w.heap.size) (hv : VL w (.slice A n c) L) (hr : Rises L) (hn : L.length ≤ 2000) (hil : ∀ v ∈ L, v.il = false) :
    Calls Tryz.prog 85 #[.pointer (some ⟨b, 0, none⟩), .agg #[.string t, .int .i64 0, .string ⟨#[]⟩, .int .i64 0, .string ⟨#[]⟩, .slice none 0 0, .int .i64 0, .bool false, .slice none 0 0, .slice none 0 0, .slice none 0 0]] w (ValP L t w) := by
  obtain ⟨Q, hQ⟩ : ∃ Q, ValP L t w = Q := ⟨_, rfl⟩
  rw [hQ]
  have HQ := Lib.hid (fun e w' (h : ValP L t w e w') => (show Q e w' from hQ ▸ h))
  obtain rfl := (VL.at hv).1
  obtain ⟨x, hx⟩ : ∃ x, x = w.heap.size := ⟨_, rfl⟩
  obtain ⟨W0, hW0⟩ : ∃ W0, W0 = w.alloc (.cells #[.string t, .int .i64 0, .string ⟨#[]⟩, .int .i64 0, .string ⟨#[]⟩, .slice none 0 0, .int .i64 0, .bool false, .slice none 0 0, .slice none 0 0, .slice none 0 0] 167) := ⟨_, rfl⟩
  have HB0 : Hid (Below w.heap.size w W0) := Lib.hid (by rw [hW0]; exact (Below.refl _ w).alloc (Nat.le_refl _) _)
  have hX0 : Blk W0 x 167 #[.string t, .int .i64 0, .string ⟨#[]⟩, .int .i64 0, .string ⟨#[]⟩, .slice none 0 0, .int .i64 0, .bool false, .slice none 0 0, .slice none 0 0, .slice none 0 0] := by rw [hW0]; exact Blk.new w _ _ hx.symm
  have HF0 := Lib.hid (find_any L t A L.length c b W0 ((HB0.out.cell (p := ⟨b, 2, none⟩) hb).trans hc) (Nat.lt_of_lt_of_le hb HB0.out.size) (hv.keep HB0.out) hr hn)
  have x0 : W0.cell? ⟨x, 0, none⟩ = some (.string t) := hX0.cell.1 0
  have x1 : W0.cell? ⟨x, 1, none⟩ = some (.int .i64 0) := hX0.cell.1 1
  have HX := Lib.hid hX0
  have HC := Lib.hid hc
  have HB := Lib.hid hb
  have HV := Lib.hid hv
  have HN := Lib.hid hn
  have HI := Lib.hid hil
  have htp := ht.pos
  have HD := Lib.hid (fun W => digit_no t[0].toNat ht.dig W)
  obtain ⟨ha, hbb, hcc, hd, he, hf, hg, hh, hp, hdig⟩ := ht
  have HXE := Lib.hid hx
  have HWE := Lib.hid hW0
  clear hQ hc hb hv hr hn hil hX0 hx hW0 hdig
  go_enter Tryz.func85, Tryz.ntmps85
  go_upto_region 1 with fail
  rw [← HXE.out, ← HWE.out]
  go_upto_region 26 with fail
  have hpz : (0 : Int) < (t.size : Int) := by omega
  go_upto_region 31 with (go_at_call 134; refine (HD.out _).mono ?_; rintro e w1 ⟨rfl, rfl⟩)
  go_upto_region 35 with (go_at_call 137; refine HF0.out.mono ?_; rintro e w1 ⟨rfl, hb1⟩)
  have HB1 := Lib.hid (HB0.out.trans (hb1.mono HB0.out.size))
  have HX1 := Lib.hid (HX.out.keep hb1)
  clear hb1 HF0 HB0 HX x0 x1
  cases hhs : hasV L t
  · have HF := Lib.hid (HQ.out (.returned (.tuple #[.slice none 0 0, .bool false])) w1 ⟨by rw [hhs], HB1.out⟩)
    simp only [Bool.false_eq_true, if_false]
    clear hhs
    go_wp2_with fail
    first | exact HF.out | exact bodyPost_ret (v := .tuple #[.slice none 0 0, .bool false]) (by simp [results, Tryz.results85, go_sem]) rfl HF.out
  · obtain ⟨hl, hge, _⟩ := getD_yes hhs
    have HL := Lib.hid hhs
    have hvv := (VL.at (HV.out.keep HB1.out)).2.2.2 _ hl
    have hile := HI.out _ (List.getElem_mem hl)
    rw [← hge] at hvv hile
    clear hge hhs
    obtain ⟨k, hk⟩ : ∃ k, k = cntV L t := ⟨_, rfl⟩
    have hQV := fun w' g (h1 : w'.cell? ⟨g, 0, none⟩ = some (.string (getD L t).vl)) (h2 : g < w'.heap.size) (h3 : Below w.heap.size w w') => HQ.out (.returned (.tuple #[.slice (some ⟨g, 0, none⟩) 1 1, .bool true])) w' ⟨by rw [HL.out]; exact ⟨g, rfl, h1, h2⟩, h3⟩
    simp only [if_pos]
    rw [← hk] at hvv hl ⊢
    generalize getD L t = v at *
    obtain ⟨vn, vl, il, ls, ex, fx⟩ := v
    obtain rfl : il = false := hile
    obtain ⟨g0, off, ⟨sA, sn, sc⟩, rfl, hgl, _, c0, c1, c2, c3, c4, c5⟩ := hvv
    unfold sv at c3
    have HQV := Lib.hid hQV
    have hm : w1.cell? ⟨b, 2, none⟩ = some (.slice (some ⟨g0, off, none⟩) L.length c) := (HB1.out.cell (p := ⟨b, 2, none⟩) HB.out).trans HC.out
    have hkz : ¬ (k : Int) < 0 := by omega
    have hk0 : 0 ≤ (k : Int) := by omega
    have hkl : (k : Int) < (L.length : Int) := by omega
    clear hk hQV HL
    go_upto_region 38 with fail
    obtain ⟨W2, hW2⟩ : ∃ W2, W2 = w1.alloc (.cells #[.string vn, .string vl, .bool false, .slice sA sn sc, .bool ex, .bool fx] 47) := ⟨_, rfl⟩
    obtain ⟨y, hy⟩ : ∃ y, y = w1.heap.size := ⟨_, rfl⟩
    have hY2 : Blk W2 y 47 #[.string vn, .string vl, .bool false, .slice sA sn sc, .bool ex, .bool fx] := by rw [hW2]; exact Blk.new w1 _ _ hy.symm
    have HB2 : Hid (Below w.heap.size w W2) := Lib.hid (by rw [hW2]; exact HB1.out.alloc HB1.out.size _)
    have HX2 : Hid (Blk W2 x 167 #[.string t, .int .i64 0, .string ⟨#[]⟩, .int .i64 0, .string ⟨#[]⟩, .slice none 0 0, .int .i64 0, .bool false, .slice none 0 0, .slice none 0 0, .slice none 0 0]) := Lib.hid (by rw [hW2]; exact HX1.out.alloc _)
    have y1 : W2.cell? ⟨y, 1, none⟩ = some (.string vl) := hY2.cell.1 1
    have y2 : W2.cell? ⟨y, 2, none⟩ = some (.bool false) := hY2.cell.1 2
    have y3 : W2.cell? ⟨y, 3, none⟩ = some (.slice sA sn sc) := hY2.cell.1 3
    rw [← hy, ← hW2]
    clear hY2 hW2 hy c0 c1 c2 c3 c4 c5 HX1 HB1 hm
    go_upto_region 41 with fail
    obtain ⟨W3, hW3⟩ : ∃ W3, W3 = W2.alloc (.cells #[.string vl] 9) := ⟨_, rfl⟩
    obtain ⟨z, hz⟩ : ∃ z, z = W2.heap.size := ⟨_, rfl⟩
    have x1 : W3.cell? ⟨x, 1, none⟩ = some (.int .i64 0) := (by rw [hW3]; exact (HX2.out.alloc _).cell.1 1)
    have z0 : W3.cell? ⟨z, 0, none⟩ = some (.string vl) := (by rw [hW3, hz]; exact sv_box_cell W2 _ _ 0)
    have HB3 : Hid (Below w.heap.size w W3) := Lib.hid (by rw [hW3]; exact HB2.out.alloc HB2.out.size _)
    have HF := Lib.hid (HQV.out (W3.alloc (.cells #[.string vl] 9)) W3.heap.size (sv_box_cell W3 _ _ 0) (by simp) (HB3.out.alloc HB3.out.size _))
    rw [← hz, ← hW3]
    clear hW3 hz HX2 HB2 HB3 HQV y1 y2 y3
    go_wp2_with fail
    first | exact HF.out | exact bodyPost_ret (v := .tuple #[.slice (some ⟨W3.heap.size, 0, none⟩) 1 1, .bool true]) (by simp [results, Tryz.results85, go_sem]) rfl HF.out
end Go.Proofs.YtlhmlbhpflgbpaaGreatDoor
