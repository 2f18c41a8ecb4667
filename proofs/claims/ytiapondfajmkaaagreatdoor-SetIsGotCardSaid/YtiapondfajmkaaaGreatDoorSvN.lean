/- Shell variables: seek, get. -/
import Derived.Test.YtiapondfajmkaaaGreatDoorSvM
namespace Go.Proofs.YtiapondfajmkaaaGreatDoor
open Go.RowKit

set_option maxRecDepth 100000 in
theorem seek_any (L : List VarV) (t : ByteArray) (A : Option Addr) (n c b : Nat) (w : World) (hc : w.cell? ⟨b, 2, none⟩ = some (.slice A n c)) (hv : VL w (.slice A n c) L) (hr : Rises L) (hn : L.length ≤ 2000) :
    Calls Tryz.prog 54 #[.pointer (some ⟨b, 0, none⟩), .string t] w (SeekP L t w) := by
  have HS := Lib.hid (search_any L t A n c w hv hr hn)
  have HQ := Lib.hid (fun w' (h : Below w.heap.size w w') => (show SeekP L t w (.returned (.tuple #[.int .i64 ((cntV L t : Nat) : Int), .bool (hasV L t)])) w' from ⟨rfl, h⟩))
  obtain ⟨rfl⟩ : n = L.length := (VL.at hv).1
  clear hv hr
  unfold SeekP at HS
  generalize SeekP L t w = Q at *
  generalize hasV L t = f at *
  generalize cntV L t = k at *
  go_enter Tryz.func54, Tryz.ntmps54
  go_wp2_with (go_at_call 83; refine HS.out.mono ?_; rintro e w2 ⟨rfl, hb2⟩)
  all_goals first | exact HQ.out _ hb2 | exact bodyPost_ret (v := .tuple #[.int .i64 (k : Int), .bool f]) (by simp [results, Tryz.results54, go_sem]) rfl (HQ.out _ hb2)
def zeroV : VarV := ⟨⟨#[]⟩, ⟨#[]⟩, false, [], false, false⟩
/-- the variable of a name, or none -/
def getD (L : List VarV) (t : ByteArray) : VarV := (getC L t).getD zeroV
theorem getD_no {L : List VarV} {t : ByteArray} (h : hasV L t = false) : getD L t = zeroV := by
  unfold getD getC
  rw [h]
  rfl
theorem getD_yes {L : List VarV} {t : ByteArray} (h : hasV L t = true) : ∃ hl : cntV L t < L.length, getD L t = L[cntV L t] ∧ L[cntV L t].nm = t := by
  obtain ⟨x, hx, hn⟩ := hasV_split h
  obtain ⟨hl, he⟩ := List.getElem?_eq_some_iff.1 hx
  refine ⟨hl, ?_, by rw [he]; exact hn⟩
  unfold getD getC
  rw [if_pos h, hx, he]
  rfl
/-- a variable is stored whole -/
def set6 (w : World) (b o : Nat) (v0 v1 v2 v3 v4 v5 : Value) : World :=
  (((((w.setCell ⟨b, o, none⟩ v0).setCell ⟨b, o + 1, none⟩ v1).setCell ⟨b, o + 2, none⟩ v2).setCell ⟨b, o + 3, none⟩ v3).setCell ⟨b, o + 4, none⟩ v4).setCell ⟨b, o + 5, none⟩ v5
theorem set6_blk {w : World} {b : Nat} {T : TypeId} {u0 u1 u2 u3 u4 u5 : Value} (h : Blk w b T #[u0, u1, u2, u3, u4, u5]) (v0 v1 v2 v3 v4 v5 : Value) : Blk (set6 w b 0 v0 v1 v2 v3 v4 v5) b T #[v0, v1, v2, v3, v4, v5] := by
  have h1 := (((((h.set_ 0 v0).set_ 1 v1).set_ 2 v2).set_ 3 v3).set_ 4 v4).set_ 5 v5
  simp only [List.setIfInBounds_toArray, List.set_cons_zero, List.set_cons_succ] at h1
  exact h1
theorem set6_below {B : Nat} {w0 w : World} {b : Nat} (h : Below B w0 w) (hB : B ≤ b) (o : Nat) (v0 v1 v2 v3 v4 v5 : Value) : Below B w0 (set6 w b o v0 v1 v2 v3 v4 v5) :=
  (((((h.setCell hB v0).setCell hB v1).setCell hB v2).setCell hB v3).setCell hB v4).setCell hB v5
theorem set6_heap (w : World) (b o : Nat) (v0 v1 v2 v3 v4 v5 : Value) (k : Nat) (h : k ≠ b) : (set6 w b o v0 v1 v2 v3 v4 v5).heap[k]? = w.heap[k]? := by
  unfold set6
  repeat rw [Below.heap_setCell _ _ _ k (by exact h)]
theorem set6_keepT {w : World} {b : Nat} {T : TypeId} {cs : Array Value} (hb : Blk w b T cs) (hT2 : T ≠ 9) (o : Nat) (v0 v1 v2 v3 v4 v5 : Value) : KeepT w (set6 w b o v0 v1 v2 v3 v4 v5) := by
  have b0 := hb.set_ o v0
  have b1 := b0.set_ (o + 1) v1
  have b2 := b1.set_ (o + 2) v2
  have b3 := b2.set_ (o + 3) v3
  have b4 := b3.set_ (o + 4) v4
  exact (((((KeepT.setCell hb hT2 o v0).trans (KeepT.setCell b0 hT2 (o + 1) v1)).trans (KeepT.setCell b1 hT2 (o + 2) v2)).trans (KeepT.setCell b2 hT2 (o + 3) v3)).trans (KeepT.setCell b3 hT2 (o + 4) v4)).trans (KeepT.setCell b4 hT2 (o + 5) v5)
theorem Blk.six {w : World} {b : Nat} {T : TypeId} {u0 u1 u2 u3 u4 u5 : Value} (h : Blk w b T #[u0, u1, u2, u3, u4, u5]) :
    w.cell? ⟨b, 0, none⟩ = some u0 ∧ w.cell? ⟨b, 1, none⟩ = some u1 ∧ w.cell? ⟨b, 2, none⟩ = some u2 ∧ w.cell? ⟨b, 3, none⟩ = some u3 ∧ w.cell? ⟨b, 4, none⟩ = some u4 ∧ w.cell? ⟨b, 5, none⟩ = some u5 ∧ ∀ j, w.frozen? ⟨b, j, none⟩ = false :=
  ⟨h.cell.1 0, h.cell.1 1, h.cell.1 2, h.cell.1 3, h.cell.1 4, h.cell.1 5, h.cell.2⟩
def GetP (L : List VarV) (t : ByteArray) (w : World) (e : Ending) (w' : World) : Prop := ∃ s, e = .returned (.tuple #[aggV (getD L t, s), .bool (hasV L t)]) ∧ SL w' (sv s) (getD L t).ls ∧ Below w.heap.size w w'
set_option maxRecDepth 100000 in
set_option maxHeartbeats 3200000 in
theorem get_any (L : List VarV) (t : ByteArray) (A : Option Addr) (n c b : Nat) (w : World) (hc : w.cell? ⟨b, 2, none⟩ = some (.slice A n c)) (hb : b < w.heap.size) (hv : VL w (.slice A n c) L) (hr : Rises L) (hn : L.length ≤ 2000) :
    Calls Tryz.prog 18 #[.pointer (some ⟨b, 0, none⟩), .string t] w (GetP L t w) := by
  obtain ⟨rfl⟩ : n = L.length := (VL.at hv).1
  obtain ⟨Q, hQ⟩ : ∃ Q, GetP L t w = Q := ⟨_, rfl⟩
  rw [hQ]
  have HQ := Lib.hid (fun e w' (h : GetP L t w e w') => (show Q e w' from hQ ▸ h))
  clear hQ
  have HV := Lib.hid hv
  obtain ⟨W0, hW0⟩ : ∃ W0, W0 = w.alloc (.cells #[.string ⟨#[]⟩, .string ⟨#[]⟩, .bool false, .slice none 0 0, .bool false, .bool false] 32) := ⟨_, rfl⟩
  obtain ⟨g, hg⟩ : ∃ g, g = w.heap.size := ⟨_, rfl⟩
  have hb0 : Below w.heap.size w W0 := by rw [hW0]; exact (Below.refl _ w).alloc (Nat.le_refl _) _
  have hx0 : Blk W0 g 32 #[.string ⟨#[]⟩, .string ⟨#[]⟩, .bool false, .slice none 0 0, .bool false, .bool false] := by rw [hW0]; exact Blk.new w _ _ hg.symm
  have hc0 : W0.cell? ⟨b, 2, none⟩ = some (.slice A L.length c) := (hb0.cell (p := ⟨b, 2, none⟩) hb).trans hc
  have hv0 := hv.keep hb0
  have HSK := Lib.hid (seek_any L t A L.length c b W0 hc0 hv0 hr hn)
  have HB0 := Lib.hid hb0
  have HX0 := Lib.hid hx0
  have HG := Lib.hid hg
  have HW0 := Lib.hid hW0
  clear hb0 hx0 hv0 hv hr hg hW0
  cases hh : hasV L t
  · have HF := Lib.hid (fun W (h : Below W0.heap.size W0 W) => HQ.out _ (set6 W g 0 (.string ⟨#[]⟩) (.string ⟨#[]⟩) (.bool false) (.slice none 0 0) (.bool false) (.bool false)) (show GetP L t w (.returned (.tuple #[.agg #[.string ⟨#[]⟩, .string ⟨#[]⟩, .bool false, .slice none 0 0, .bool false, .bool false], .bool false])) _ from
      ⟨(none, 0, 0), by rw [getD_no hh, hh]; rfl, by rw [getD_no hh]; exact SL.empty _, set6_below (HB0.out.trans (h.mono HB0.out.size)) (by rw [HG.out]; exact Nat.le_refl _) _ _ _ _ _ _ _⟩))
    unfold SeekP at HSK
    rw [hh] at HSK
    generalize cntV L t = k at *
    clear hh
    go_enter Tryz.func18, Tryz.ntmps18
    go_upto_region 1 with fail
    rw [← HG.out, ← HW0.out]
    go_upto_region 2 with (go_at_call 54; refine HSK.out.mono ?_; rintro e w2 ⟨rfl, hb2⟩)
    have hx2 := HX0.out.keep hb2
    have HF2 := Lib.hid (HF.out w2 hb2)
    obtain ⟨x0, x1, x2, x3, x4, x5, xf⟩ := hx2.six
    have HE := set6_blk hx2 (.string ⟨#[]⟩) (.string ⟨#[]⟩) (.bool false) (.slice none 0 0) (.bool false) (.bool false)
    obtain ⟨W6, hW6⟩ : ∃ W6, W6 = set6 w2 g 0 (.string ⟨#[]⟩) (.string ⟨#[]⟩) (.bool false) (.slice none 0 0) (.bool false) (.bool false) := ⟨_, rfl⟩
    rw [← hW6] at HF2 HE
    obtain ⟨z0, z1, z2, z3, z4, z5, _⟩ := HE.six
    unfold set6 at hW6
    have HW6 := Lib.hid hW6
    clear hx2 hb2 hW6 HE HF
    go_wp2_with fail
    rw [← HW6.out]
    exact bodyPost_ret (v := .tuple #[.agg #[.string ⟨#[]⟩, .string ⟨#[]⟩, .bool false, .slice none 0 0, .bool false, .bool false], .bool false]) (by simp [results, Tryz.results18, go_sem, z0, z1, z2, z3, z4, z5]) rfl HF2.out
  · obtain ⟨hl, hge, hnm⟩ := getD_yes hh
    obtain ⟨_, _, _, hat⟩ := VL.at HV.out
    obtain ⟨b1, off, s, hA, hb1, hsl, d0, d1, d2, d3, d4, d5⟩ := hat (cntV L t) hl
    clear hat
    subst hA
    rw [← hge] at hsl d0 d1 d2 d4 d5
    obtain ⟨x, hx⟩ : ∃ x, x = getD L t := ⟨_, rfl⟩
    have HXE := Lib.hid hx
    rw [← hx] at hsl d0 d1 d2 d4 d5
    obtain ⟨sA, sn, sc⟩ := s
    have HSL := Lib.hid hsl
    unfold sv at d3
    unfold SeekP at HSK
    have HF := Lib.hid (fun W (h : Below W0.heap.size W0 W) => HQ.out _ (set6 W g 0 (.string x.nm) (.string x.vl) (.bool x.il) (.slice sA sn sc) (.bool x.ex) (.bool x.fx)) (show GetP L t w (.returned (.tuple #[.agg #[.string x.nm, .string x.vl, .bool x.il, .slice sA sn sc, .bool x.ex, .bool x.fx], .bool true])) _ from by
      have hbw : Below w.heap.size w (set6 W g 0 (.string x.nm) (.string x.vl) (.bool x.il) (.slice sA sn sc) (.bool x.ex) (.bool x.fx)) := set6_below (HB0.out.trans (h.mono HB0.out.size)) (by rw [HG.out]; exact Nat.le_refl _) _ _ _ _ _ _ _
      exact ⟨(sA, sn, sc), by rw [← HXE.out, hh]; rfl, by rw [← HXE.out]; exact HSL.out.keep hbw, hbw⟩))
    rw [hh] at HSK
    have hkz : ((cntV L t : Nat) : Int) < (L.length : Int) := by omega
    have hkz0 : (0 : Int) ≤ ((cntV L t : Nat) : Int) := by omega
    have hcc : ∀ i, W0.cell? ⟨b1, i, none⟩ = w.cell? ⟨b1, i, none⟩ := fun i => HB0.out.cell (p := ⟨b1, i, none⟩) hb1
    have hb10 : b1 < W0.heap.size := Nat.lt_of_lt_of_le hb1 HB0.out.size
    have hbb : b < W0.heap.size := Nat.lt_of_lt_of_le hb HB0.out.size
    generalize cntV L t = k at *
    clear hh hx hge hnm hsl
    go_enter Tryz.func18, Tryz.ntmps18
    go_upto_region 1 with fail
    rw [← HG.out, ← HW0.out]
    go_upto_region 2 with (go_at_call 54; refine HSK.out.mono ?_; rintro e w2 ⟨rfl, hb2⟩)
    have hx2 := HX0.out.keep hb2
    have HF2 := Lib.hid (HF.out w2 hb2)
    have hc2 : ∀ i, w2.cell? ⟨b1, i, none⟩ = w.cell? ⟨b1, i, none⟩ := fun i => (hb2.cell (p := ⟨b1, i, none⟩) hb10).trans (hcc i)
    have c0 := (hc2 _).trans d0
    have c1 := (hc2 _).trans d1
    have c2 := (hc2 _).trans d2
    have c3 := (hc2 _).trans d3
    have c4 := (hc2 _).trans d4
    have c5 := (hc2 _).trans d5
    have cb : w2.cell? ⟨b, 2, none⟩ = some (.slice (some ⟨b1, off, none⟩) L.length c) := (hb2.cell (p := ⟨b, 2, none⟩) hbb).trans hc0
    obtain ⟨x0, x1, x2, x3, x4, x5, xf⟩ := hx2.six
    have HE := set6_blk hx2 (.string x.nm) (.string x.vl) (.bool x.il) (.slice sA sn sc) (.bool x.ex) (.bool x.fx)
    obtain ⟨W6, hW6⟩ : ∃ W6, W6 = set6 w2 g 0 (.string x.nm) (.string x.vl) (.bool x.il) (.slice sA sn sc) (.bool x.ex) (.bool x.fx) := ⟨_, rfl⟩
    rw [← hW6] at HF2 HE
    obtain ⟨z0, z1, z2, z3, z4, z5, _⟩ := HE.six
    unfold set6 at hW6
    have HW6 := Lib.hid hW6
    clear hx2 hb2 hW6 HE HF hc2 hcc d0 d1 d2 d3 d4 d5
    go_wp2_with fail
    rw [← HW6.out]
    exact bodyPost_ret (v := .tuple #[.agg #[.string x.nm, .string x.vl, .bool x.il, .slice sA sn sc, .bool x.ex, .bool x.fx], .bool true]) (by simp [results, Tryz.results18, go_sem, z0, z1, z2, z3, z4, z5]) rfl HF2.out
end Go.Proofs.YtiapondfajmkaaaGreatDoor
