/- SplitMatches, the reference: a text marked; what separates. -/
import Derived.Test.YtbgmjmooifjhjaaDoorSplitD
import Derived.Deep.QuietTactic
namespace Go.Proofs.YtbgmjmooifjhjaaDoor
open Go.RowKit

abbrev m2 : Value := .int .u8 2
theorem markInfo : (Tryd.prog.info? 66).map (fun i => (i.zero, i.size, i.bytes)) = some (some (.agg #[.int .u8 0, .int .u8 0]), 2, 2) := by kernel_rfl

set_option maxRecDepth 100000 in
set_option maxHeartbeats 1600000 in
theorem marks_any (s : ByteArray) (w : World) (hs : s.size ≤ 1000000000) :
    Calls Tryd.prog 23 #[.string s, .int .u8 2] w fun e w' => ∃ v, e = .returned v ∧ ML m2 w' v s.data.toList ∧ Below w.heap.size w w' := by
  obtain ⟨i0, hi0, hz0, hz1, hz2⟩ := info_parts markInfo
  go_enter Tryd.func23, Tryd.ntmps23
  go_wp2_with fail
  go_loopw [5, 9] (fun so si wr => ∃ (vo : Value) (k : Nat), vo = so ∧ si = .int .i64 (k : Int) ∧ k ≤ s.size ∧ Hid (MW 66 m2 w vo (s.data.toList.take k) wr)) (fun _ si _ => s.size - (intOf si).toNat)
  case atStart => exact ⟨_, 0, rfl, rfl, Nat.zero_le _, by rw [List.take_zero]; exact MW.nil _ _ _⟩
  case round =>
    obtain ⟨vo, k, rfl, rfl, hk, HM⟩ := hrel
    by_cases hlt : k < s.size
    · have hkF : k < s.data.toList.length := by rw [size_toList]; exact hlt
      have hFk : s.data.toList[k]'hkF = s[k] := by rw [Array.getElem_toList]; rfl
      have hst : s.data.toList.take k ++ [s[k]] = s.data.toList.take (k + 1) := by rw [List.take_add_one, List.getElem?_eq_getElem hkF, hFk]; rfl
      have HST := Lib.hid hst
      have hlen : (s.data.toList.take k).length = k := by rw [List.length_take]; omega
      have HLN := Lib.hid hlen
      have HOa := Lib.hid (HM.out.1.alloc (.cells #[.int .u8 (s[k].toNat : Int), m2] 66))
      have HN := Lib.hid (new_two wr (.int .u8 (s[k].toNat : Int)) m2 66)
      clear hst hFk
      go_wp2_with (at_builtin; refine wpList_append_own _ rfl _ _ 62 rfl w.heap.size 66 i0 (.agg #[.int .u8 0, .int .u8 0]) 2 2 Tryd.underlying62 hi0 hz0 hz1 hz2 rfl (by decide) vo (s.data.toList.take k).length _ rfl HOa.out ⟨wr.heap.size, 0, none⟩ 1 1 [.int .u8 (s[k].toNat : Int), m2] rfl rfl HN.out (fun u hu => by simp at hu; rcases hu with rfl | rfl <;> rfl) ?c3 ?c4 ?c5 ?_)
      case c3 => unfold maxLen; omega
      case c4 => omega
      case c5 => have := HM.out.2.size; simp; omega
      intro v6 w6 hown6 hg6 _
      have hm6 := HM.out.grown (.cells #[.int .u8 (s[k].toNat : Int), m2] 66) hg6 (c := s[k]) (by first | exact hown6 | (rw [HLN.out]; exact hown6))
      rw [HST.out] at hm6
      have HM6 := Lib.hid hm6
      clear hown6 hg6 hm6 hlen
      go_wp2_with fail
      go_roundw
      case rel => exact ⟨v6, k + 1, rfl, by go_num, by omega, HM6.out⟩
      case measure => simp [intOf]; omega
    · have hkT : s.data.toList.take k = s.data.toList := List.take_of_length_le (by rw [size_toList]; omega)
      have HM2 := HM
      rw [hkT] at HM2
      clear HM
      go_wp2_with fail
      go_ret
      exact ⟨vo, rfl, ML.of_own HM2.out.1, HM2.out.2⟩

/-- the boxes of the reference's divide: its text, its separators, its function -/
structure RBx (w : World) (g : Nat) (v : Value) (F : ByteArray) : Prop where
  l : w.cell? ⟨g, 0, none⟩ = some v
  f : w.cell? ⟨g + 1, 0, none⟩ = some (.string F)
  s : w.cell? ⟨g + 2, 0, none⟩ = some (.func (.func 37) #[] #[.pointer (some ⟨g, 0, none⟩), .pointer (some ⟨g + 1, 0, none⟩)])
  lt : g + 2 < w.heap.size
theorem RBx.keep {w w' : World} {g : Nat} {v : Value} {F : ByteArray} (h : RBx w g v F) (hb : Below w.heap.size w w') : RBx w' g v F :=
  ⟨(hb.cell (p := ⟨g, 0, none⟩) (by have := h.lt; show g < _; omega)).trans h.l, (hb.cell (p := ⟨g + 1, 0, none⟩) (by have := h.lt; show g + 1 < _; omega)).trans h.f, (hb.cell (p := ⟨g + 2, 0, none⟩) h.lt).trans h.s, Nat.lt_of_lt_of_le h.lt hb.size⟩
theorem atB_or (T : List UInt8) (k : Nat) (F : List UInt8) : atB T k (inL F) = (atB T k (inL (blankF F)) || atB T k (inL (wideF F))) := by
  unfold atB
  split
  · rw [inL_sep]
  · rfl

set_option maxRecDepth 100000 in
set_option maxHeartbeats 1600000 in
theorem rsep_any (T : List UInt8) (v : Value) (F : ByteArray) (i g : Nat) (w : World) (hv : ML m2 w v T) (hb : RBx w g v F) :
    Calls Tryd.prog 37 #[.int .i64 (i : Int), .pointer (some ⟨g, 0, none⟩), .pointer (some ⟨g + 1, 0, none⟩)] w fun e w' => e = .returned (.bool (atB T i (inL F.data.toList))) ∧ Below w.heap.size w w' := by
  obtain ⟨A, c, rfl, hc, hz⟩ := id hv
  clear hz
  obtain ⟨hl, hf, _, hlt⟩ := hb
  by_cases hi : i < T.length
  · obtain ⟨b, off, rfl, hb, h1, h2⟩ := hv.at hi
    rw [atB_at hi]
    have HX := Lib.hid (fun W => index_any F T[i] W)
    have hidx := index_in F.data.toList T[i]
    generalize T[i] = ch at *
    generalize T.length = n at *
    have hd : decide ((i : Int) < (n : Int)) = true := by rw [decide_eq_true_iff]; omega
    clear hv hlt
    go_enter Tryd.func37, Tryd.ntmps37
    go_wp2_with fail
    go_quiet ((go_at_call 31; exact Calls.quiet_of_same (HX.out _)))
    go_wp2_with fail
    go_ret
    exact ⟨rfl, below_drewN (Below.refl _ _) nq⟩
  · rw [atB_end (by omega)]
    generalize T.length = n at *
    have hd : decide ((i : Int) < (n : Int)) = false := by rw [decide_eq_false_iff_not]; omega
    clear hv hlt
    go_enter Tryd.func37, Tryd.ntmps37
    go_wp2_with fail
    go_quiet (fail)
    go_wp2_with fail
    go_ret
    exact ⟨rfl, below_drewN (Below.refl _ _) nq⟩

end Go.Proofs.YtbgmjmooifjhjaaDoor
