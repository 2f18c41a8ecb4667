/- A line of a text and a place alone: the program's pressed and the reference's editForm find the same fault in it. -/
import Derived.Test.YtokmiommhfbkeaaGreatDoorHist
import Derived.Test.YtokmiommhfbkeaaGreatDoorRow
import Derived.LoopN
namespace Go.Proofs.YtokmiommhfbkeaaGreatDoor
open Go.RowKit

/-- a line of which the text and the place are told -/
abbrev elV (text : ByteArray) (at' : Int) : Value := .agg #[.string text, .int .i64 at', .string ⟨#[]⟩, .bool false, .slice none 0 0, .int .i64 0, .string ⟨#[]⟩]
def lineE (text : ByteArray) (at' : Int) : Int := if withinB at' 0 text.size && lineB text then 0 else 5
theorem lineB_empty : lineB ⟨#[]⟩ = true := by decide +kernel

/-- a block that was laid stays as it was -/
theorem box_keep {w w1 : World} {cs : Array Value} {b : Nat} (h : ∀ j, w.cell? ⟨b, j, none⟩ = cs[j]?) (hlt : b < w.heap.size) (hb : Below w.heap.size w w1) : (∀ j, w1.cell? ⟨b, j, none⟩ = cs[j]?) ∧ b < w1.heap.size :=
  ⟨fun j => (hb.cell (p := ⟨b, j, none⟩) hlt).trans (h j), Nat.lt_of_lt_of_le hlt hb.size⟩
theorem box_old (w : World) (cs : Array Value) (t : TypeId) (o : Obj) : ∀ j, ((w.alloc (.cells cs t)).alloc o).cell? ⟨w.heap.size, j, none⟩ = cs[j]? := fun j => by
  rw [World.cell?_alloc_lt _ _ _ (by simp), World.cell?_alloc_at _ _ _ _ rfl]
theorem box_new (w : World) (cs : Array Value) (t : TypeId) : (∀ j, (w.alloc (.cells cs t)).cell? ⟨w.heap.size, j, none⟩ = cs[j]?) ∧ w.heap.size < (w.alloc (.cells cs t)).heap.size :=
  ⟨fun j => by rw [World.cell?_alloc_at _ _ _ _ rfl], by simp⟩

set_option maxHeartbeats 400000 in
theorem noStates (w : World) : Calls Tryz.prog 131 #[.slice none 0 0, .func (.func 132) #[] #[]] w fun e w' => e = .returned (.bool false) ∧ w = w' := by
  go_enter Tryz.func131, Tryz.ntmps131
  go_wp2
  refine wp_loop_rounds 1 ?_
  rw [rounds_succ]
  go_wp2
  go_ret
  exact ⟨rfl, rfl⟩

set_option maxHeartbeats 1600000 in
theorem rightLine_nil (text : ByteArray) (at' : Int) (w : World) (ht : text.size ≤ maxLen) :
    Calls Tryz.prog 75 #[elV text at'] w fun e w' => e = .returned (.bool (withinB at' 0 text.size && lineB text)) ∧ Below w.heap.size w w' := by
  have hE := Lib.hid (fun W => by
    have := isLine_any ⟨#[]⟩ W (by decide)
    rw [lineB_empty] at this; exact this)
  have hT := Lib.hid (fun W => isLine_any text W ht)
  cases h1 : withinB at' 0 text.size
  · go_enter Tryz.func75, Tryz.ntmps75
    go_wp2_with (go_at_call 53; refine (within_any _ _ _ _).mono ?_; rintro e w' ⟨rfl, rfl⟩)
    go_ret
    exact ⟨rfl, (Below.refl _ _).alloc (Nat.le_refl _) _⟩
  · cases h2 : lineB text
    · rw [h2] at hT
      clear h2
      go_enter Tryz.func75, Tryz.ntmps75
      go_wp2_with (first | (go_at_call 53; refine (within_any _ _ _ _).mono ?_; rintro e w' ⟨rfl, rfl⟩) | (go_at_call 130; refine (hT.out _).mono ?_; rintro e w1 ⟨rfl, hb1⟩))
      go_ret
      exact ⟨rfl, ((Below.refl _ _).alloc (Nat.le_refl _) _).trans (hb1.mono (by simp))⟩
    · rw [h2] at hT
      clear h2
      go_enter Tryz.func75, Tryz.ntmps75
      go_wp2_with (first | (go_at_call 53; refine (within_any _ _ _ _).mono ?_; rintro e w' ⟨rfl, rfl⟩))
      refine (hT.out _).mono ?_
      rintro e w1 ⟨rfl, hb1⟩
      obtain ⟨c1, l1⟩ := box_keep (box_new w #[.string text, .int .i64 at', .string ⟨#[]⟩, .bool false, .slice none 0 0, .int .i64 0, .string ⟨#[]⟩] 37).1 (by simp) hb1
      go_wp2_with fail
      refine (hE.out _).mono ?_
      rintro e w2 ⟨rfl, hb2⟩
      obtain ⟨c2, l2⟩ := box_keep c1 l1 hb2
      clear c1
      go_wp2_with fail
      refine (hE.out _).mono ?_
      rintro e w3 ⟨rfl, hb3⟩
      obtain ⟨c3, l3⟩ := box_keep c2 l2 hb3
      clear c2
      have hbb := ((((Below.refl _ w).alloc (Nat.le_refl _) (.cells #[.string text, .int .i64 at', .string ⟨#[]⟩, .bool false, .slice none 0 0, .int .i64 0, .string ⟨#[]⟩] 37)).trans (hb1.mono (by simp))).trans (hb2.mono (by omega))).trans (hb3.mono (by omega))
      go_wp2_with (go_at_call 131; refine (noStates _).mono ?_; rintro e w' ⟨rfl, rfl⟩)
      go_ret
      exact ⟨rfl, hbb⟩

set_option maxHeartbeats 1600000 in
theorem pressed_nil (text : ByteArray) (at' : Int) (w : World) (ht : text.size ≤ maxLen) :
    Calls Tryz.prog 31 #[elV text at', .slice none 0 0, .int .i64 200] w fun e w' => e = .returned (.int .i64 (lineE text at')) ∧ Below w.heap.size w w' := by
  have hT := Lib.hid (fun W => rightLine_nil text at' W ht)
  have hH := Lib.hid (fun W => by
    have := rightHistory_any [] (.slice none 0 0) W ⟨none, 0, rfl, Nat.le_refl _, fun h => by simp at h⟩ (by simp) (by simp)
    rw [show histB [] = true from rfl] at this; exact this)
  have hw : withinB 0 0 200 = true := rfl
  cases h1 : withinB at' 0 text.size && lineB text
  · have hfin := Lib.hid (show lineE text at' = 5 by simp [lineE, h1])
    rw [h1] at hT
    clear h1
    go_enter Tryz.func31, Tryz.ntmps31
    go_wp2_with (go_at_call 75; refine (hT.out _).mono ?_; rintro e w1 ⟨rfl, hb1⟩)
    go_ret
    exact ⟨ret_int hfin.out.symm, ((Below.refl _ w).alloc (Nat.le_refl _) _).trans (hb1.mono (by simp))⟩
  · have hfin := Lib.hid (show lineE text at' = 0 by simp [lineE, h1])
    rw [h1] at hT
    clear h1
    go_enter Tryz.func31, Tryz.ntmps31
    go_wp2_with fail
    refine (hT.out _).mono ?_
    rintro e w1 ⟨rfl, hb1⟩
    obtain ⟨c1, l1⟩ := box_keep (box_new w #[.string text, .int .i64 at', .string ⟨#[]⟩, .bool false, .slice none 0 0, .int .i64 0, .string ⟨#[]⟩] 37).1 (by simp) hb1
    go_wp2_with fail
    refine (hH.out _).mono ?_
    rintro e w2 ⟨rfl, hb2⟩
    obtain ⟨c2, l2⟩ := box_keep c1 l1 hb2
    clear c1
    have hbb := (((Below.refl _ w).alloc (Nat.le_refl _) (.cells #[.string text, .int .i64 at', .string ⟨#[]⟩, .bool false, .slice none 0 0, .int .i64 0, .string ⟨#[]⟩] 37)).trans (hb1.mono (by simp))).trans (hb2.mono (by omega))
    go_wp2_with (go_at_call 53; refine (within_any _ _ _ _).mono ?_; rintro e w' ⟨rfl, rfl⟩)
    go_ret
    exact ⟨ret_int hfin.out.symm, hbb⟩

/-- the history that the reference's View takes: 200 empty lines -/
def hist200 : List ByteArray := List.replicate 200 ⟨#[]⟩
theorem hist200_len : hist200.length = 200 := List.length_replicate
theorem hist200_ok : histB hist200 = true := by
  have : ∀ s ∈ hist200, s = ⟨#[]⟩ := fun s h => List.eq_of_mem_replicate h
  unfold histB
  rw [Bool.and_eq_true]
  refine ⟨by rw [decide_eq_true_iff, hist200_len]; omega, List.all_eq_true.2 fun s h => by rw [this s h]; exact lineB_empty⟩

theorem SL.three {w : World} {b : Nat} {x y z : ByteArray} {t : TypeId} (h : w.heap[b]? = some (.cells #[.string x, .string y, .string z] t (0, 0))) : SL w (.slice (some ⟨b, 0, none⟩) 3 3) [x, y, z] :=
  ⟨_, 3, rfl, Nat.le_refl _, fun _ => ⟨b, 0, rfl, lt_of_block h, fun j hj => by
    match j, hj with
    | 0, _ => simp [World.cell?, h]
    | 1, _ => simp [World.cell?, h]
    | 2, _ => simp [World.cell?, h]⟩⟩
theorem lineForm_three (text : ByteArray) (w : World) (b : Nat) (h : w.heap[b]? = some (.cells #[.string text, .string ⟨#[]⟩, .string ⟨#[]⟩] 9 (0, 0))) (hl : text.size ≤ maxLen) :
    Calls Tryz.prog 84 #[.slice (some ⟨b, 0, none⟩) 3 3] w fun e w' => e = .returned (.bool (cleanB text.data.toList)) ∧ Below w.heap.size w w' :=
  (lineForm_any [text, ⟨#[]⟩, ⟨#[]⟩] _ _ (SL.three h) (by simp) (fun s hs => by
    simp only [List.mem_cons, List.not_mem_nil, or_false] at hs
    rcases hs with rfl | rfl | rfl
    · exact hl
    · decide
    · decide)).mono fun e w' ⟨he, hb⟩ => ⟨by rw [he]; simp [show cleanB ([] : List UInt8) = true from rfl], hb⟩

set_option maxRecDepth 100000 in
set_option maxHeartbeats 1600000 in
theorem editForm_nil (text : ByteArray) (at' : Int) (v : Value) (w : World) (hv : SL w v hist200) (ht : text.size ≤ maxLen) :
    Calls Tryz.prog 39 #[elV text at', v] w fun e w' => e = .returned (.int .i64 (lineE text at')) ∧ Below w.heap.size w w' := by
  have hL := Lib.hid (fun W b (h : W.heap[b]? = some (.cells #[.string text, .string ⟨#[]⟩, .string ⟨#[]⟩] 9 (0, 0))) => lineForm_three text W b h ht)
  have hH := Lib.hid (fun W (hb : Below w.heap.size w W) => by
    have := historyForm_any hist200 v W (hv.keep hb) (by rw [hist200_len]; omega) (fun s h => by rw [List.eq_of_mem_replicate h]; decide)
    rw [show histE hist200 = 0 by unfold histE; rw [if_pos hist200_ok]] at this; exact this)
  obtain ⟨A, c, rfl, hc, h⟩ := hv
  rw [hist200_len] at hH hc ⊢
  clear h
  by_cases g : 0 ≤ at' ∧ at' ≤ text.size ∧ text.size ≤ 1000
  · obtain ⟨g1, g2, g3⟩ := g
    have hw : withinB at' 0 text.size = true := by simp [withinB]; omega
    have HNEW := Lib.hid (show ∀ o, ((w.alloc o).alloc (.cells #[.string text, .string ⟨#[]⟩, .string ⟨#[]⟩] 9)).heap[w.heap.size + 1]? = some (.cells #[.string text, .string ⟨#[]⟩, .string ⟨#[]⟩] 9 (0, 0)) from fun o => by
        have := heap_alloc_new (w.alloc o) (.cells #[.string text, .string ⟨#[]⟩, .string ⟨#[]⟩] 9)
        simpa using this)
    have hb2 : ∀ o1 o2, Below w.heap.size w ((w.alloc o1).alloc o2) := fun o1 o2 => ((Below.refl _ w).alloc (Nat.le_refl _) o1).alloc (by simp) o2
    have HB2 := Lib.hid hb2
    clear hb2
    cases h2 : cleanB text.data.toList
    · have hfin := Lib.hid (show lineE text at' = 5 by simp [lineE, lineB, h2])
      rw [h2] at hL
      clear h2 hw
      go_enter Tryz.func39, Tryz.ntmps39
      go_wp2_with fail
      refine wp_loop_rounds 1 ?_
      rw [rounds_succ]
      go_wp2_with fail
      refine wp_loop_rounds 4 ?_
      rw [rounds_succ]
      go_wp2_with fail
      rw [rounds_succ]
      go_wp2_with fail
      rw [rounds_succ]
      go_wp2_with fail
      rw [rounds_succ]
      go_wp2_with fail
      refine (hL.out _ _ (HNEW.out _)).mono ?_
      rintro e w1 ⟨rfl, hb1⟩
      go_wp2
      go_ret
      exact ⟨ret_int hfin.out.symm, (HB2.out _ _).trans (hb1.mono (HB2.out _ _).size)⟩
    · have hfin := Lib.hid (show lineE text at' = 0 by simp [lineE, lineB, h2, hw, g3])
      rw [h2] at hL
      clear h2 hw
      go_enter Tryz.func39, Tryz.ntmps39
      go_wp2_with fail
      refine wp_loop_rounds 1 ?_
      rw [rounds_succ]
      go_wp2_with fail
      refine wp_loop_rounds 4 ?_
      rw [rounds_succ]
      go_wp2_with fail
      rw [rounds_succ]
      go_wp2_with fail
      rw [rounds_succ]
      go_wp2_with fail
      rw [rounds_succ]
      go_wp2_with fail
      refine (hL.out _ _ (HNEW.out _)).mono ?_
      rintro e w1 ⟨rfl, hb1⟩
      have hbb := (HB2.out (.cells #[.string text, .int .i64 at', .string ⟨#[]⟩, .bool false, .slice none 0 0, .int .i64 0, .string ⟨#[]⟩] 37) (.cells #[.string text, .string ⟨#[]⟩, .string ⟨#[]⟩] 9)).trans (hb1.mono (HB2.out _ _).size)
      have HBB := Lib.hid hbb
      obtain ⟨c1, l1⟩ := box_keep (box_old w _ _ (.cells #[.string text, .string ⟨#[]⟩, .string ⟨#[]⟩] 9)) (by simp; omega) hb1
      clear hbb
      go_wp2_with fail
      refine (hH.out _ HBB.out).mono ?_
      rintro e w2 ⟨rfl, hb2⟩
      obtain ⟨c2, l2⟩ := box_keep c1 l1 hb2
      clear c1
      go_wp2
      go_ret
      exact ⟨ret_int hfin.out.symm, HBB.out.trans (hb2.mono HBB.out.size)⟩
  · have hfin := Lib.hid (show lineE text at' = 5 by
      unfold lineE; rw [if_neg]; intro hh
      simp [lineB, withinB] at hh
      exact g ⟨hh.1.1, hh.1.2, hh.2.1⟩)
    have HB2 := Lib.hid (show ∀ o1 o2, Below w.heap.size w ((w.alloc o1).alloc o2) from fun o1 o2 => ((Below.refl _ w).alloc (Nat.le_refl _) o1).alloc (by simp) o2)
    have hgo : (decide ((0 : Int) ≤ at') = false) ∨ (decide ((0 : Int) ≤ at') = true ∧ decide (at' ≤ (text.size : Int)) = false) ∨ (decide ((0 : Int) ≤ at') = true ∧ decide (at' ≤ (text.size : Int)) = true ∧ decide ((text.size : Int) ≤ 1000) = false) := by
      by_cases g1 : 0 ≤ at'
      · by_cases g2 : at' ≤ text.size
        · exact .inr (.inr ⟨by rw [decide_eq_true_iff]; exact g1, by rw [decide_eq_true_iff]; exact g2, by rw [decide_eq_false_iff_not]; intro h; exact g ⟨g1, g2, by omega⟩⟩)
        · exact .inr (.inl ⟨by rw [decide_eq_true_iff]; exact g1, by rw [decide_eq_false_iff_not]; exact g2⟩)
      · exact .inl (by rw [decide_eq_false_iff_not]; exact g1)
    clear g
    rcases hgo with g1 | ⟨g1, g2⟩ | ⟨g1, g2, g3⟩
    all_goals
      go_enter Tryz.func39, Tryz.ntmps39
      go_wp2_with fail
      refine wp_loop_rounds 1 ?_
      rw [rounds_succ]
      go_wp2_with fail
      refine wp_loop_rounds 4 ?_
      rw [rounds_succ]
      go_wp2_with fail
      rw [rounds_succ]
      go_wp2_with fail
      rw [rounds_succ]
      go_wp2_with fail
      rw [rounds_succ]
      go_wp2_with fail
      go_ret
      exact ⟨ret_int hfin.out.symm, HB2.out _ _⟩

end Go.Proofs.YtokmiommhfbkeaaGreatDoor
