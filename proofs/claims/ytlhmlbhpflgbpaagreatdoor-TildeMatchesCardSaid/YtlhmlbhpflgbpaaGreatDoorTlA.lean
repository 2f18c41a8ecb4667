/- TildeMatches: a new shell; elements; where a text is cut. -/
import Derived.Test.YtlhmlbhpflgbpaaGreatDoorSvW
namespace Go.Proofs.YtlhmlbhpflgbpaaGreatDoor
open Go.RowKit

def nHOME : ByteArray := ⟨#[72, 79, 77, 69]⟩
def nIFS : ByteArray := ⟨#[73, 70, 83]⟩
def nPWD : ByteArray := ⟨#[80, 87, 68]⟩
def nOLD : ByteArray := ⟨#[79, 76, 68, 80, 87, 68]⟩
/-- the state of a new shell -/
def newS : ShV := ⟨⟨#[115, 104]⟩, [], [⟨nHOME, ⟨#[47]⟩, false, [], true, false⟩, ⟨nIFS, ⟨#[32, 9, 10]⟩, false, [], false, false⟩, ⟨nPWD, ⟨#[47]⟩, false, [], true, false⟩], 0, 0, 18, ⟨#[47]⟩⟩
def NewP (w : World) (e : Ending) (w' : World) : Prop := ∃ V : SV, e = .returned (.agg (cellsS newS ⟨(none, 0, 0), V⟩)) ∧ ShM w' newS ⟨(none, 0, 0), V⟩ ∧ Below w.heap.size w w'
set_option maxRecDepth 100000 in
set_option maxHeartbeats 3200000 in
theorem new_any (w : World) : Calls Tryz.prog 6 #[.string ⟨#[47]⟩] w (NewP w) := by
  obtain ⟨Q, hQ⟩ : ∃ Q, NewP w = Q := ⟨_, rfl⟩
  rw [hQ]
  have HQ := Lib.hid (fun e w' (h : NewP w e w') => (show Q e w' from hQ ▸ h))
  clear hQ
  go_enter Tryz.func6, Tryz.ntmps6
  go_wp2_with fail
  have hb : Blk ((w.alloc (.cells #[.string ⟨#[115, 104]⟩, .slice none 0 0, .slice (some ⟨w.heap.size + 1, 0, none⟩) 3 3, .slice none 0 0, .slice none 0 0, .int .i64 0, .int .i64 0, .int .i64 18, .string ⟨#[47]⟩] 28)).alloc (.cells #[.string ⟨#[72, 79, 77, 69]⟩, .string ⟨#[47]⟩, .bool false, .slice none 0 0, .bool true, .bool false, .string ⟨#[73, 70, 83]⟩, .string ⟨#[32, 9, 10]⟩, .bool false, .slice none 0 0, .bool false, .bool false, .string ⟨#[80, 87, 68]⟩, .string ⟨#[47]⟩, .bool false, .slice none 0 0, .bool true, .bool false] 47)) w.heap.size 28 #[.string ⟨#[115, 104]⟩, .slice none 0 0, .slice (some ⟨w.heap.size + 1, 0, none⟩) 3 3, .slice none 0 0, .slice none 0 0, .int .i64 0, .int .i64 0, .int .i64 18, .string ⟨#[47]⟩] := (Blk.new w _ _ rfl).alloc _
  have ho : ((w.alloc (.cells #[.string ⟨#[115, 104]⟩, .slice none 0 0, .slice (some ⟨w.heap.size + 1, 0, none⟩) 3 3, .slice none 0 0, .slice none 0 0, .int .i64 0, .int .i64 0, .int .i64 18, .string ⟨#[47]⟩] 28)).alloc (.cells #[.string ⟨#[72, 79, 77, 69]⟩, .string ⟨#[47]⟩, .bool false, .slice none 0 0, .bool true, .bool false, .string ⟨#[73, 70, 83]⟩, .string ⟨#[32, 9, 10]⟩, .bool false, .slice none 0 0, .bool false, .bool false, .string ⟨#[80, 87, 68]⟩, .string ⟨#[47]⟩, .bool false, .slice none 0 0, .bool true, .bool false] 47)).ownsRow w.heap.size 47 6 (.slice (some ⟨w.heap.size + 1, 0, none⟩) 3 3) 3 (prV (newS.vs.map fun v => (v, ((none, 0, 0) : SV)))) := by
    have := World.ownsRow_lit (base := w.heap.size) (e := 47) (size := 6) (w.alloc (.cells #[.string ⟨#[115, 104]⟩, .slice none 0 0, .slice (some ⟨w.heap.size + 1, 0, none⟩) 3 3, .slice none 0 0, .slice none 0 0, .int .i64 0, .int .i64 0, .int .i64 18, .string ⟨#[47]⟩] 28)) #[.string ⟨#[72, 79, 77, 69]⟩, .string ⟨#[47]⟩, .bool false, .slice none 0 0, .bool true, .bool false, .string ⟨#[73, 70, 83]⟩, .string ⟨#[32, 9, 10]⟩, .bool false, .slice none 0 0, .bool false, .bool false, .string ⟨#[80, 87, 68]⟩, .string ⟨#[47]⟩, .bool false, .slice none 0 0, .bool true, .bool false] 3 (by simp) (by decide) rfl
    rw [show (w.alloc (.cells #[.string ⟨#[115, 104]⟩, .slice none 0 0, .slice (some ⟨w.heap.size + 1, 0, none⟩) 3 3, .slice none 0 0, .slice none 0 0, .int .i64 0, .int .i64 0, .int .i64 18, .string ⟨#[47]⟩] 28)).heap.size = w.heap.size + 1 by simp] at this
    exact this
  have hv := VL.of_own ho (fun p hp => by
    obtain ⟨v, hv, rfl⟩ := List.mem_map.1 hp
    simp only [newS, List.mem_cons, List.not_mem_nil, or_false] at hv
    obtain rfl | rfl | rfl := hv <;> exact SL.empty _)
  have hbl : Below w.heap.size w ((w.alloc (.cells #[.string ⟨#[115, 104]⟩, .slice none 0 0, .slice (some ⟨w.heap.size + 1, 0, none⟩) 3 3, .slice none 0 0, .slice none 0 0, .int .i64 0, .int .i64 0, .int .i64 18, .string ⟨#[47]⟩] 28)).alloc (.cells #[.string ⟨#[72, 79, 77, 69]⟩, .string ⟨#[47]⟩, .bool false, .slice none 0 0, .bool true, .bool false, .string ⟨#[73, 70, 83]⟩, .string ⟨#[32, 9, 10]⟩, .bool false, .slice none 0 0, .bool false, .bool false, .string ⟨#[80, 87, 68]⟩, .string ⟨#[47]⟩, .bool false, .slice none 0 0, .bool true, .bool false] 47)) := ((Below.refl _ w).alloc (Nat.le_refl _) _).alloc (by simp) _
  have HF := HQ.out (.returned (.agg #[.string ⟨#[115, 104]⟩, .slice none 0 0, .slice (some ⟨w.heap.size + 1, 0, none⟩) 3 3, .slice none 0 0, .slice none 0 0, .int .i64 0, .int .i64 0, .int .i64 18, .string ⟨#[47]⟩])) _ ⟨(some ⟨w.heap.size + 1, 0, none⟩, 3, 3), rfl, ⟨SL.empty _, hv⟩, hbl⟩
  obtain ⟨W, hW⟩ : ∃ W, W = (w.alloc (.cells #[.string ⟨#[115, 104]⟩, .slice none 0 0, .slice (some ⟨w.heap.size + 1, 0, none⟩) 3 3, .slice none 0 0, .slice none 0 0, .int .i64 0, .int .i64 0, .int .i64 18, .string ⟨#[47]⟩] 28)).alloc (.cells #[.string ⟨#[72, 79, 77, 69]⟩, .string ⟨#[47]⟩, .bool false, .slice none 0 0, .bool true, .bool false, .string ⟨#[73, 70, 83]⟩, .string ⟨#[32, 9, 10]⟩, .bool false, .slice none 0 0, .bool false, .bool false, .string ⟨#[80, 87, 68]⟩, .string ⟨#[47]⟩, .bool false, .slice none 0 0, .bool true, .bool false] 47) := ⟨_, rfl⟩
  rw [← hW] at HF hb ⊢
  obtain ⟨z0, z1, z2, z3, z4, z5, z6, z7, z8, _⟩ := hb.nine
  exact bodyPost_ret (v := .agg #[.string ⟨#[115, 104]⟩, .slice none 0 0, .slice (some ⟨w.heap.size + 1, 0, none⟩) 3 3, .slice none 0 0, .slice none 0 0, .int .i64 0, .int .i64 0, .int .i64 18, .string ⟨#[47]⟩]) (by simp [results, Tryz.results6, go_sem, z0, z1, z2, z3, z4, z5, z6, z7, z8]) rfl HF
def ElemP (x : VarV) (w : World) (e : Ending) (w' : World) : Prop := e = .returned (.string x.vl) ∧ Below w.heap.size w w'
set_option maxRecDepth 100000 in
set_option maxHeartbeats 1600000 in
theorem elements_any (x : VarV) (s : SV) (w : World) (h : x.il = false) : Calls Tryz.prog 84 #[aggV (x, s)] w fun e w' => ∃ g, e = .returned (.slice (some ⟨g, 0, none⟩) 1 1) ∧ w'.cell? ⟨g, 0, none⟩ = some (.string x.vl) ∧ g < w'.heap.size ∧ Below w.heap.size w w' := by
  obtain ⟨n, vl, il, ls, ex, fx⟩ := x
  obtain ⟨sA, sn, sc⟩ := s
  obtain rfl : il = false := h
  unfold aggV sv
  go_enter Tryz.func84, Tryz.ntmps84
  go_wp2_with fail
  go_ret
  refine ⟨w.heap.size + 1, rfl, ?_, by simp, ((Below.refl _ w).alloc (Nat.le_refl _) _).alloc (by simp) _⟩
  have := sv_box_cell (w.alloc (.cells #[.string n, .string vl, .bool false, .slice sA sn sc, .bool ex, .bool fx] 47)) #[.string vl] 9 0
  rw [show (w.alloc (.cells #[.string n, .string vl, .bool false, .slice sA sn sc, .bool ex, .bool fx] 47)).heap.size = w.heap.size + 1 by simp] at this
  exact this
set_option maxRecDepth 100000 in
set_option maxHeartbeats 1600000 in
theorem element_any (x : VarV) (s : SV) (w : World) (h : x.il = false) : Calls Tryz.prog 52 #[aggV (x, s), .int .i64 0] w (ElemP x w) := by
  have HE := Lib.hid (fun W => elements_any x s W h)
  obtain ⟨n, vl, il, ls, ex, fx⟩ := x
  obtain ⟨sA, sn, sc⟩ := s
  obtain rfl : il = false := h
  unfold aggV sv at HE ⊢
  have HB := Lib.hid ((Below.refl _ w).alloc (Nat.le_refl _) (.cells #[.string n, .string vl, .bool false, .slice sA sn sc, .bool ex, .bool fx] 47))
  have HQ := Lib.hid (fun w' (h : Below w.heap.size w w') => (show ElemP ⟨n, vl, false, ls, ex, fx⟩ w (.returned (.string vl)) w' from ⟨rfl, h⟩))
  generalize ElemP ⟨n, vl, false, ls, ex, fx⟩ w = Q at *
  go_enter Tryz.func52, Tryz.ntmps52
  go_wp2_with (go_at_call 84; refine (HE.out _).mono ?_; rintro e w2 ⟨g, rfl, hc, hg, hb⟩; have HB2 := Lib.hid (HB.out.trans (hb.mono HB.out.size)); clear hb)
  exact HQ.out _ HB2.out
/-- where a text is cut -/
def headT (t : ByteArray) : Nat := if 0 ≤ Lib.indexByte t.data.toList 47 then (Lib.indexByte t.data.toList 47).toNat else t.size
theorem headT_le (t : ByteArray) : headT t ≤ t.size := by
  unfold headT
  split
  · rename_i h
    obtain ⟨o, ho⟩ := Int.eq_ofNat_of_zero_le h
    have h1 := (Lib.indexByte_some ho).1
    have h2 := (List.getElem?_eq_some_iff.1 h1).1
    rw [ho]
    have : t.data.toList.length = t.size := by rw [Array.length_toList]; rfl
    simp
    omega
  · exact Nat.le_refl _
def CutP (t : ByteArray) (w : World) (e : Ending) (w' : World) : Prop := ∃ r f, e = .returned (.tuple #[.string (t.extract 0 (headT t)), .string r, .bool f]) ∧ Below w.heap.size w w'
set_option maxRecDepth 100000 in
set_option maxHeartbeats 1600000 in
theorem scut_any (t : ByteArray) (w : World) (hs : t.size ≤ 9223372036854775806) :
    Calls Tryz.prog 50 #[.string t, .string ⟨#[47]⟩] w (CutP t w) := by
  have HI := Lib.hid (fun W => Tryz.stringslite_Index_one t 47 W)
  have HB := Lib.hid (fun n => below_drewN (Below.refl w.heap.size w) n)
  have hle := headT_le t
  by_cases hd : 0 ≤ Lib.indexByte t.data.toList 47
  · obtain ⟨i, hi⟩ := Int.eq_ofNat_of_zero_le hd
    have hh : headT t = i := by unfold headT; rw [if_pos hd, hi]; rfl
    have hlt : i < t.size := by
      have h1 := (Lib.indexByte_some hi).1
      have h2 := (List.getElem?_eq_some_iff.1 h1).1
      have : t.data.toList.length = t.size := by rw [Array.length_toList]; rfl
      omega
    have HQ := Lib.hid (fun W r (h : Below w.heap.size w W) => (show CutP t w (.returned (.tuple #[.string (t.extract 0 i), .string r, .bool true])) W from ⟨r, true, by rw [hh], h⟩))
    rw [hi] at HI
    obtain ⟨n, hn⟩ : ∃ n, n = t.size := ⟨_, rfl⟩
    rw [← hn] at hs hlt
    have e1 : IntKind.i64.wrap ((i : Int) + 1) = ((i + 1 : Nat) : Int) := IntWalk.i64_in _ (by omega)
    have e2 : IntKind.i64.wrap ((i : Int) + 1) = (i : Int) + 1 := IntWalk.i64_in _ (by omega)
    have b0 : (i : Int) ≥ 0 := by omega
    have b1 : 0 ≤ (i : Int) := by omega
    have b2 : (i : Int) ≤ (n : Int) := by omega
    have b3 : i ≤ n := by omega
    have b4 : ((i + 1 : Nat) : Int) ≤ (n : Int) := by omega
    have b5 : (i : Int) + 1 ≤ (n : Int) := by omega
    have b6 : i + 1 ≤ n := by omega
    have b7 : 0 ≤ (i : Int) + 1 := by omega
    have b8 : ((i : Int) + 1).toNat = i + 1 := by omega
    generalize CutP t w = Q at *
    clear hi hd hh hle
    have hn2 : t.size = n := hn.symm
    clear hn
    go_enter Tryz.func50, Tryz.ntmps50
    go_upto_region 1 with fail
    go_wp2_with (go_at_call 82; refine (HI.out _).mono ?_; rintro e w2 ⟨rfl, rfl⟩)
    go_wp2_with fail
    go_region
    go_wp2_with fail
    exact bodyPost_ret (v := .tuple #[.string (t.extract 0 i), .string (t.extract (i + 1) n), .bool true]) (by simp [results, Tryz.results50, go_sem]) rfl (HQ.out _ _ (HB.out _))
  · have hh : headT t = t.size := by unfold headT; rw [if_neg hd]
    have hx : t.extract 0 t.size = t := by simp
    have HQ := Lib.hid (show CutP t w (.returned (.tuple #[.string t, .string ⟨#[]⟩, .bool false])) w from ⟨⟨#[]⟩, false, by rw [hh, hx], Below.refl _ _⟩)
    obtain ⟨ix, hix⟩ : ∃ ix, ix = Lib.indexByte t.data.toList 47 := ⟨_, rfl⟩
    rw [← hix] at HI hd
    have hd2 : ¬ ix ≥ 0 := hd
    generalize CutP t w = Q at *
    clear hh hix hx hle
    go_enter Tryz.func50, Tryz.ntmps50
    go_upto_region 1 with fail
    go_wp2_with (go_at_call 82; refine (HI.out _).mono ?_; rintro e w2 ⟨rfl, rfl⟩)
    go_wp2_with fail
    exact bodyPost_ret (v := .tuple #[.string t, .string ⟨#[]⟩, .bool false]) (by simp [results, Tryz.results50, go_sem]) rfl HQ.out
end Go.Proofs.YtlhmlbhpflgbpaaGreatDoor
