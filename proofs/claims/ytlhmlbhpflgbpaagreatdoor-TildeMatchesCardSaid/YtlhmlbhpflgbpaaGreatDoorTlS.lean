/- TildeMatches, the reference: find and value. -/
import Derived.Test.YtlhmlbhpflgbpaaGreatDoorTlC
namespace Go.Proofs.YtlhmlbhpflgbpaaGreatDoor
open Go.RowKit

/-- the first variable of a name is at its place -/
theorem idxV_name {L : List VarV} (hr : Rises L) (t : ByteArray) : idxV (fun v => v.nm.toList == t.toList) L = if hasV L t = true then (cntV L t : Int) else -1 := by
  cases hh : hasV L t
  · rw [if_neg (by simp)]
    refine idxV_none fun j hj _ => ?_
    cases hb : (L[j].nm.toList == t.toList) with
    | false => rfl
    | true =>
      have he : L[j].nm = t := (Lib.bytes_beq_iff _ _).1 hb
      have := (getC_mem hr.pair (List.getElem_mem hj)).1
      rw [he, hh] at this
      cases this
  · rw [if_pos rfl]
    obtain ⟨hl, _, hn⟩ := getD_yes hh
    refine idxV_hit hl (fun j hj hlt => ?_) (by rw [hn]; exact beq_self_eq_true _)
    have hm : L[j] ∈ L.take (cntV L t) := List.mem_take_iff_getElem.2 ⟨j, by omega, rfl⟩
    have h1 := (cntV_split (t := t) hr.pair).1 _ hm
    cases hb : (L[j].nm.toList == t.toList) with
    | false => rfl
    | true =>
      have he : L[j].nm = t := (Lib.bytes_beq_iff _ _).1 hb
      rw [he, lessS_irrefl] at h1
      cases h1
set_option maxRecDepth 100000 in
set_option maxHeartbeats 1600000 in
theorem find_tells (t : ByteArray) (bx : Nat) (w : World) (h : w.cell? ⟨bx, 0, none⟩ = some (.string t)) (hl : bx < w.heap.size) (L : List VarV) : TellsV w 183 #[.pointer (some ⟨bx, 0, none⟩)] (fun v => v.nm.toList == t.toList) L := by
  intro v _ s W hW _
  obtain ⟨sA, sn, sc⟩ := s
  obtain ⟨n, vl, il, ls, ex, fx⟩ := v
  have hc : W.cell? ⟨bx, 0, none⟩ = some (.string t) := (hW.cell (p := ⟨bx, 0, none⟩) hl).trans h
  have hB := (Below.refl W.heap.size W).alloc (Nat.le_refl _) (.cells #[.string n, .string vl, .bool il, .slice sA sn sc, .bool ex, .bool fx] 47)
  have hc2 : (W.alloc (.cells #[.string n, .string vl, .bool il, .slice sA sn sc, .bool ex, .bool fx] 47)).cell? ⟨bx, 0, none⟩ = some (.string t) := (hB.cell (p := ⟨bx, 0, none⟩) (Nat.lt_of_lt_of_le hl hW.size)).trans hc
  have HB := Lib.hid hB
  clear hB hW h
  show Calls _ _ #[.agg #[.string n, .string vl, .bool il, .slice sA sn sc, .bool ex, .bool fx], .pointer (some ⟨bx, 0, none⟩)] W _
  go_enter Tryz.func183, Tryz.ntmps183
  go_wp2_with fail
  go_ret
  exact ⟨rfl, HB.out⟩
def FindP (L : List VarV) (t : ByteArray) (w : World) (e : Ending) (w' : World) : Prop := e = .returned (.int .i64 (if hasV L t = true then (cntV L t : Int) else -1)) ∧ Below w.heap.size w w'
set_option maxRecDepth 100000 in
set_option maxHeartbeats 1600000 in
theorem find_any (L : List VarV) (t : ByteArray) (A : Option Addr) (n c b : Nat) (w : World) (hc : w.cell? ⟨b, 2, none⟩ = some (.slice A n c)) (hb : b < w.heap.size) (hv : VL w (.slice A n c) L) (hr : Rises L) (hn : L.length ≤ 2000) :
    Calls Tryz.prog 137 #[.pointer (some ⟨b, 0, none⟩), .string t] w (FindP L t w) := by
  have hB := (Below.refl w.heap.size w).alloc (Nat.le_refl _) (.cells #[.string t] 9)
  have hc2 : (w.alloc (.cells #[.string t] 9)).cell? ⟨b, 2, none⟩ = some (.slice A n c) := (hB.cell (p := ⟨b, 2, none⟩) hb).trans hc
  have hT := find_tells t w.heap.size (w.alloc (.cells #[.string t] 9)) (sv_box_cell w _ _ 0) (by simp) L
  have HC := Lib.hid (indexFuncV_any 183 _ (fun _ _ => rfl) _ L A n c _ (hv.keep hB) hn hT)
  rw [idxV_name hr] at HC
  have HQ := Lib.hid (fun w' (h : Below w.heap.size w w') => (show FindP L t w (.returned (.int .i64 (if hasV L t = true then (cntV L t : Int) else -1))) w' from ⟨rfl, h⟩))
  have HB := Lib.hid hB
  generalize FindP L t w = Q at *
  clear hT hv hr hn hc hb hB
  generalize (if hasV L t = true then (cntV L t : Int) else -1) = m at *
  go_enter Tryz.func137, Tryz.ntmps137
  go_wp2_with (go_at_call 65; refine HC.out.mono ?_; rintro e w2 ⟨rfl, hb2⟩)
  have hF := HQ.out _ (HB.out.trans (hb2.mono HB.out.size))
  first | exact hF | exact bodyPost_ret (v := .int .i64 m) (by simp [results, Tryz.results137, go_sem]) rfl hF
set_option maxRecDepth 100000 in
theorem digit_no (c : Nat) (h : 57 < c) (w : World) : Calls Tryz.prog 134 #[.int .u8 (c : Int)] w fun e w' => e = .returned (.bool false) ∧ w = w' := by
  have h1 : ((c : Nat) : Int) ≥ 48 := by omega
  have h2 : ¬ ((c : Nat) : Int) ≤ 57 := by omega
  have h3 : (48 : Int) ≤ (c : Int) := by omega
  go_enter Tryz.func134, Tryz.ntmps134
  go_wp2_with fail
  go_ret
  exact ⟨rfl, rfl⟩
end Go.Proofs.YtlhmlbhpflgbpaaGreatDoor
