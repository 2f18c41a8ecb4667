/- Lines and histories that may be edited: the program's isLine and rightHistory, the reference's lineForm and historyForm tell the same. -/
import Derived.Test.YtokmiommhfbkeaaGreatDoorStrs
import Derived.Test.YtokmiommhfbkeaaGreatDoorIndexAny
namespace Go.Proofs.YtokmiommhfbkeaaGreatDoor
open Go.RowKit

def lineB (s : ByteArray) : Bool := decide (s.size ≤ 1000) && cleanB s.data.toList

set_option maxHeartbeats 400000 in
theorem isLine_any (s : ByteArray) (w : World) (hs : s.size ≤ maxLen) :
    Calls Tryz.prog 130 #[.string s] w fun e w' => e = .returned (.bool (lineB s)) ∧ Below w.heap.size w w' := by
  by_cases h1 : s.size ≤ 1000
  · have hfin := Lib.hid (show decide (Lib.indexAny s.data.toList zn.data.toList < 0) = lineB s by unfold lineB cleanB; simp [h1])
    go_enter Tryz.func130, Tryz.ntmps130
    go_wp2_with (go_at_call 191; refine (indexAny_any _ _ hs).mono ?_; rintro e w' ⟨rfl, hb⟩)
    go_ret
    exact ⟨ret_bool hfin.out, hb⟩
  · have hfin := Lib.hid (show lineB s = false by simp [lineB]; omega)
    have hd : decide ((s.size : Int) ≤ 1000) = false := by rw [decide_eq_false_iff_not]; omega
    go_enter Tryz.func130, Tryz.ntmps130
    go_wp2
    go_ret
    exact ⟨ret_bool hfin.out.symm, Below.refl _ _⟩

set_option maxHeartbeats 400000 in
theorem notLine_any (s : ByteArray) (w : World) (hs : s.size ≤ maxLen) :
    Calls Tryz.prog 134 #[.string s] w fun e w' => e = .returned (.bool (!lineB s)) ∧ Below w.heap.size w w' := by
  go_enter Tryz.func134, Tryz.ntmps134
  go_wp2_with (go_at_call 130; refine (isLine_any _ _ hs).mono ?_; rintro e w' ⟨rfl, hb⟩)
  go_ret
  exact ⟨rfl, hb⟩

def histB (l : List ByteArray) : Bool := decide (l.length ≤ 200) && l.all lineB

set_option maxHeartbeats 400000 in
theorem rightHistory_any (l : List ByteArray) (v : Value) (w : World) (hv : SL w v l) (hn : l.length ≤ 9223372036854775807) (hs : ∀ s ∈ l, s.size ≤ maxLen) :
    Calls Tryz.prog 76 #[v] w fun e w' => e = .returned (.bool (histB l)) ∧ Below w.heap.size w w' := by
  have hc := Lib.hid (containsFunc_any 134 (enters_of Tryz.func134 (by kernel_rfl) rfl) (fun s => !lineB s) l v w hv hn (fun s h W _ => notLine_any s W (hs s h)))
  obtain ⟨A, c, rfl, hcap, h⟩ := hv
  clear h hs
  by_cases h1 : l.length ≤ 200
  · have hfin := Lib.hid (show (!l.any fun s => !lineB s) = histB l by unfold histB; rw [List.all_eq_not_any_not]; simp [h1])
    go_enter Tryz.func76, Tryz.ntmps76
    go_wp2_with (go_at_call 133; refine hc.out.mono ?_; rintro e w' ⟨rfl, hb⟩)
    go_ret
    exact ⟨ret_bool hfin.out, hb⟩
  · have hfin := Lib.hid (show histB l = false by simp [histB]; omega)
    have hd : decide ((l.length : Int) ≤ 200) = false := by rw [decide_eq_false_iff_not]; omega
    go_enter Tryz.func76, Tryz.ntmps76
    go_wp2
    go_ret
    exact ⟨ret_bool hfin.out.symm, Below.refl _ _⟩

set_option maxHeartbeats 400000 in
theorem unclean_any (s : ByteArray) (w : World) (hs : s.size ≤ maxLen) :
    Calls Tryz.prog 137 #[.string s] w fun e w' => e = .returned (.bool (!cleanB s.data.toList)) ∧ Below w.heap.size w w' := by
  go_enter Tryz.func137, Tryz.ntmps137
  go_wp2_with (go_at_call 138; refine (containsAny_any _ _ hs).mono ?_; rintro e w' ⟨rfl, hb⟩)
  go_ret
  exact ⟨rfl, hb⟩

set_option maxHeartbeats 400000 in
theorem lineForm_any (l : List ByteArray) (v : Value) (w : World) (hv : SL w v l) (hn : l.length ≤ 9223372036854775807) (hs : ∀ s ∈ l, s.size ≤ maxLen) :
    Calls Tryz.prog 84 #[v] w fun e w' => e = .returned (.bool (l.all fun s => cleanB s.data.toList)) ∧ Below w.heap.size w w' := by
  have hc := Lib.hid (containsFunc_any 137 (enters_of Tryz.func137 (by kernel_rfl) rfl) (fun s => !cleanB s.data.toList) l v w hv hn (fun s h W _ => unclean_any s W (hs s h)))
  obtain ⟨A, c, rfl, hcap, h⟩ := hv
  clear h hs
  have hfin := Lib.hid (show (!l.any fun s => !cleanB s.data.toList) = l.all fun s => cleanB s.data.toList by rw [List.all_eq_not_any_not])
  go_enter Tryz.func84, Tryz.ntmps84
  go_wp2_with (go_at_call 133; refine hc.out.mono ?_; rintro e w' ⟨rfl, hb⟩)
  go_ret
  exact ⟨ret_bool hfin.out, hb⟩

set_option maxHeartbeats 400000 in
theorem long_any (s : ByteArray) (w : World) :
    Calls Tryz.prog 139 #[.string s] w fun e w' => e = .returned (.bool (decide (1000 < s.size))) ∧ Below w.heap.size w w' := by
  go_enter Tryz.func139, Tryz.ntmps139
  go_wp2
  go_ret
  exact ⟨ret_bool (by rw [Bool.eq_iff_iff]; simp; omega), Below.refl _ _⟩

/-- the number of the error of a history -/
def histE (l : List ByteArray) : Int := if histB l then 0 else 2

set_option maxHeartbeats 800000 in
theorem historyForm_any (l : List ByteArray) (v : Value) (w : World) (hv : SL w v l) (hn : l.length ≤ 9223372036854775807) (hs : ∀ s ∈ l, s.size ≤ maxLen) :
    Calls Tryz.prog 85 #[v] w fun e w' => e = .returned (.int .i64 (histE l)) ∧ Below w.heap.size w w' := by
  have hc := Lib.hid (lineForm_any l v w hv hn hs)
  have hd := Lib.hid (fun W (hb : Below w.heap.size w W) => containsFunc_any 139 (enters_of Tryz.func139 (by kernel_rfl) rfl) (fun s => decide (1000 < s.size)) l v W (hv.keep hb) hn (fun s _ W _ => long_any s W))
  obtain ⟨A, c, rfl, hcap, h⟩ := hv
  clear h hs
  by_cases h1 : l.length ≤ 200
  · have hd1 : decide ((200 : Int) < (l.length : Int)) = false := by rw [decide_eq_false_iff_not]; omega
    cases h2 : l.all fun s => cleanB s.data.toList
    · have hfin := Lib.hid (show histE l = 2 by
        unfold histE; rw [if_neg]; intro hh
        simp only [histB, Bool.and_eq_true, List.all_eq_true, lineB] at hh
        have : (l.all fun s => cleanB s.data.toList) = true := List.all_eq_true.2 fun x hx => (hh.2 x hx).2
        rw [h2] at this; cases this)
      rw [h2] at hc
      clear h2
      go_enter Tryz.func85, Tryz.ntmps85
      go_wp2_with (go_at_call 84; refine hc.out.mono ?_; rintro e w' ⟨rfl, hb⟩)
      go_ret
      exact ⟨ret_int hfin.out.symm, hb⟩
    · rw [h2] at hc
      cases h3 : l.any fun s => decide (1000 < s.size)
      · have hfin := Lib.hid (show histE l = 0 by
          unfold histE; rw [if_pos]
          simp only [histB, Bool.and_eq_true, List.all_eq_true, lineB, decide_eq_true_eq]
          refine ⟨h1, fun x hx => ⟨?_, List.all_eq_true.1 h2 x hx⟩⟩
          have := List.any_eq_false.1 h3 x hx
          simpa using this)
        simp only [h3] at hd
        clear h2 h3
        go_enter Tryz.func85, Tryz.ntmps85
        go_wp2_with (first | (go_at_call 84; refine hc.out.mono ?_; rintro e w1 ⟨rfl, hb⟩) | (go_at_call 133; refine (hd.out _ hb).mono ?_; rintro e w2 ⟨rfl, hb2⟩))
        go_ret
        exact ⟨ret_int hfin.out.symm, hb.trans (hb2.mono hb.size)⟩
      · have hfin := Lib.hid (show histE l = 2 by
          unfold histE; rw [if_neg]; intro hh
          simp only [histB, Bool.and_eq_true, List.all_eq_true, lineB, decide_eq_true_eq] at hh
          obtain ⟨x, hx, hx2⟩ := List.any_eq_true.1 h3
          have := (hh.2 x hx).1
          simp at hx2; omega)
        simp only [h3] at hd
        clear h2 h3
        go_enter Tryz.func85, Tryz.ntmps85
        go_wp2_with (first | (go_at_call 84; refine hc.out.mono ?_; rintro e w1 ⟨rfl, hb⟩) | (go_at_call 133; refine (hd.out _ hb).mono ?_; rintro e w2 ⟨rfl, hb2⟩))
        go_ret
        exact ⟨ret_int hfin.out.symm, hb.trans (hb2.mono hb.size)⟩
  · have hfin := Lib.hid (show histE l = 2 by unfold histE histB; rw [if_neg]; simp; omega)
    have hd1 : decide ((200 : Int) < (l.length : Int)) = true := by rw [decide_eq_true_iff]; omega
    go_enter Tryz.func85, Tryz.ntmps85
    go_wp2
    go_ret
    exact ⟨ret_int hfin.out.symm, Below.refl _ _⟩

end Go.Proofs.YtokmiommhfbkeaaGreatDoor
