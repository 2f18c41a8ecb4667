/- The reference's Remember gives the history that remL tells. -/
import Derived.Test.YtokmiommhfbkeaaDoorRem
namespace Go.Proofs.YtokmiommhfbkeaaDoor
open Go.RowKit

theorem SL.one {w : World} {b : Nat} {s : ByteArray} {t : TypeId} (h : w.heap[b]? = some (.cells #[.string s] t (0, 0))) : SL w (.slice (some ⟨b, 0, none⟩) 1 1) [s] :=
  ⟨_, 1, rfl, Nat.le_refl _, fun _ => ⟨b, 0, rfl, lt_of_block h, fun j hj => by
    obtain rfl : j = 0 := by simpa using hj
    exact cell_of_one h⟩⟩

theorem lineForm_one (line : ByteArray) (w : World) (hl : line.size ≤ maxLen) :
    Calls Tryd.prog 37 #[.slice (some ⟨w.heap.size, 0, none⟩) 1 1] (w.alloc (.cells #[.string line] 9)) fun e w' => e = .returned (.bool (cleanB line.data.toList)) ∧ Below w.heap.size w w' :=
  (lineForm_any [line] _ _ (SL.one (heap_alloc_new w (.cells #[.string line] 9))) (by simp) (by simpa using hl)).mono fun e w' ⟨he, hb⟩ => ⟨by simpa using he, ((Below.refl _ w).alloc (Nat.le_refl _) _).trans (hb.mono (by simp))⟩

set_option maxHeartbeats 800000 in
theorem rrem_err (l : List ByteArray) (v : Value) (line : ByteArray) (most : Int) (w : World) (hv : SL w v l) (hn : l.length ≤ 9223372036854775807) (hs : ∀ s ∈ l, s.size ≤ maxLen) (hl : line.size ≤ maxLen)
    (hx : ¬ (0 ≤ most ∧ most ≤ 200) ∨ histB l = false ∨ cleanB line.data.toList = false ∨ 1000 < line.size) :
    Calls Tryd.prog 12 #[v, .string line, .int .i64 most] w (RemPost w l line most) := by
  have hR := Lib.hid (historyForm_any l v w hv hn hs)
  by_cases h1 : 0 ≤ most ∧ most ≤ 200
  · have g1 : ¬ most < 0 := by omega
    have g2 : ¬ 200 < most := by omega
    cases h2 : histB l
    · have hfin := Lib.hid (show remL l line most = ([], 2) by unfold remL; rw [if_neg (by simpa using h1), if_pos (by simp [h2])])
      rw [show histE l = 2 by simp [histE, h2]] at hR
      clear hv hx hs h2
      go_enter Tryd.func12, Tryd.ntmps12
      go_wp2_with (go_at_call 36; refine hR.out.mono ?_; rintro e w1 ⟨rfl, hb⟩)
      go_ret2
      exact ⟨_, by rw [hfin.out]; rfl, by rw [hfin.out]; exact SL.nil _, hb⟩
    · rw [show histE l = 0 by simp [histE, h2]] at hR
      have hI := Lib.hid (fun W => lineForm_one line W hl)
      cases h3 : cleanB line.data.toList
      · have hfin := Lib.hid (show remL l line most = ([], 5) by unfold remL; rw [if_neg (by simpa using h1), if_neg (by simp [h2]), if_pos (by simp [h3])])
        rw [h3] at hI
        clear hv hx hs h2 h3
        go_enter Tryd.func12, Tryd.ntmps12
        go_wp2_with (first | (go_at_call 36; refine hR.out.mono ?_; rintro e w1 ⟨rfl, hb⟩) | (go_at_call 37; refine (hI.out _).mono ?_; rintro e w2 ⟨rfl, hb2⟩))
        go_ret2
        exact ⟨_, by rw [hfin.out]; rfl, by rw [hfin.out]; exact SL.nil _, hb.trans (hb2.mono hb.size)⟩
      · have h4 : 1000 < line.size := by
          rcases hx with hx | hx | hx | hx
          · exact absurd h1 hx
          · rw [h2] at hx; cases hx
          · rw [h3] at hx; cases hx
          · exact hx
        have hfin := Lib.hid (show remL l line most = ([], 2) by unfold remL; rw [if_neg (by simpa using h1), if_neg (by simp [h2]), if_neg (by simp [h3]), if_pos h4])
        rw [h3] at hI
        clear hv hx hs h2 h3
        go_enter Tryd.func12, Tryd.ntmps12
        go_wp2_with (first | (go_at_call 36; refine hR.out.mono ?_; rintro e w1 ⟨rfl, hb⟩) | (go_at_call 37; refine (hI.out _).mono ?_; rintro e w2 ⟨rfl, hb2⟩))
        go_ret2
        exact ⟨_, by rw [hfin.out]; rfl, by rw [hfin.out]; exact SL.nil _, hb.trans (hb2.mono hb.size)⟩
  · have hfin := Lib.hid (show remL l line most = ([], 3) by unfold remL; rw [if_pos h1])
    by_cases g1 : most < 0
    · clear hv hx hs h1
      go_enter Tryd.func12, Tryd.ntmps12
      go_wp2
      go_ret2
      exact ⟨_, by rw [hfin.out]; rfl, by rw [hfin.out]; exact SL.nil _, Below.refl _ _⟩
    · have g2 : 200 < most := by omega
      clear hv hx hs h1
      go_enter Tryd.func12, Tryd.ntmps12
      go_wp2
      go_ret2
      exact ⟨_, by rw [hfin.out]; rfl, by rw [hfin.out]; exact SL.nil _, Below.refl _ _⟩

set_option maxHeartbeats 1600000 in
theorem rrem_keep (l : List ByteArray) (v : Value) (line : ByteArray) (most : Int) (w : World) (hv : SL w v l) (hs : ∀ s ∈ l, s.size ≤ maxLen) (hl : line.size ≤ 1000)
    (h1 : 0 ≤ most) (h2 : most ≤ 200) (h3 : histB l = true) (h4 : cleanB line.data.toList = true) (ha : addB l line = false) :
    Calls Tryd.prog 12 #[v, .string line, .int .i64 most] w (RemPost w l line most) := by
  have hlm : line.size ≤ maxLen := by unfold maxLen; omega
  have hn2 : l.length ≤ 200 := by simp [histB] at h3; exact h3.1
  have g1 : ¬ most < 0 := by omega
  have g2 : ¬ 200 < most := by omega
  have hR := Lib.hid (historyForm_any l v w hv (by omega) hs)
  rw [show histE l = 0 by simp [histE, h3]] at hR
  have hI := Lib.hid (fun W => lineForm_one line W hlm)
  rw [h4] at hI
  have hC := Lib.hid (fun W (hb : Below w.heap.size w W) => clone_any l v W (hv.keep hb) (by omega))
  have hfin := Lib.hid (show remL l line most = (l.drop (l.length - most.toNat), 0) by unfold remL; rw [if_neg (by omega), if_neg (by simp [h3]), if_neg (by simp [h4]), if_neg (by omega)]; simp [remAll, ha])
  have hcs := Lib.hid (add_cases l line)
  clear hv hs h3 h4
  go_enter Tryd.func12, Tryd.ntmps12
  go_wp2_with (first | (go_at_call 36; refine hR.out.mono ?_; rintro e w1 ⟨rfl, hb⟩) | (go_at_call 37; refine (hI.out _).mono ?_; rintro e w2 ⟨rfl, hb2⟩))
  refine (hC.out _ (hb.trans (hb2.mono hb.size))).mono ?_
  rintro e w3 ⟨v3, rfl, ho, hb3⟩
  have HV := Lib.hid (SL.of_own ho)
  obtain ⟨A3, c3, rfl, hc3, hcells⟩ := SL.of_own ho
  have hb03 := (hb.trans (hb2.mono hb.size)).trans (hb3.mono (Nat.le_trans hb.size hb2.size))
  have HB := Lib.hid hb03
  obtain ⟨k, hk⟩ : ∃ k : Nat, max ((l.length : Int) - most) 0 = (k : Int) := ⟨l.length - most.toNat, by omega⟩
  have hk2 : k ≤ l.length := by omega
  have hkk := Lib.hid (show l.length - most.toNat = k by omega)
  rcases hcs.out with ⟨_, e1⟩ | ⟨h0, e1, ⟨_, e2⟩ | ⟨e2, ⟨ha2, _⟩ | ⟨hp, ⟨_, e3⟩ | ⟨ha2, _⟩⟩⟩⟩
  · clear hcs hb hb2 hb3 ho hb03 hcells
    go_wp2_with fail
    · have hck : c3 = k := by assumption
      go_ret2
      exact ⟨_, by rw [hfin.out]; rfl, by rw [hfin.out, hkk.out]; exact HV.out.cut0 hck, HB.out⟩
    · have hck : ¬ c3 = k := by assumption
      go_ret2
      exact ⟨_, by rw [hfin.out]; rfl, by rw [hfin.out, hkk.out]; exact HV.out.cut hk2 hck, HB.out⟩
  · clear hcs hb hb2 hb3 ho hb03 hcells
    go_wp2_with fail
    · have hck : c3 = k := by assumption
      go_ret2
      exact ⟨_, by rw [hfin.out]; rfl, by rw [hfin.out, hkk.out]; exact HV.out.cut0 hck, HB.out⟩
    · have hck : ¬ c3 = k := by assumption
      go_ret2
      exact ⟨_, by rw [hfin.out]; rfl, by rw [hfin.out, hkk.out]; exact HV.out.cut hk2 hck, HB.out⟩
  · exact absurd ha2 (by rw [ha]; simp)
  · obtain ⟨b, off, rfl, hlt, hcell⟩ := hcells hp
    have hce := hcell (l.length - 1) (by omega)
    have hl0 : ((l.length : Int) == 0) = false := by rw [beq_eq_false_iff_ne]; omega
    have hi1 : (0 : Int) ≤ (l.length : Int) - 1 := by omega
    have hi2 : ((l.length : Int) - 1).toNat = l.length - 1 := by omega
    generalize l[l.length - 1] = last at *
    clear hcs hb hb2 hb3 ho hb03 hcells hcell
    go_wp2_with fail
    · have hck : c3 = k := by assumption
      go_ret2
      exact ⟨_, by rw [hfin.out]; rfl, by rw [hfin.out, hkk.out]; exact HV.out.cut0 hck, HB.out⟩
    · have hck : ¬ c3 = k := by assumption
      have hcut := HV.out.cut hk2 hck
      rw [Option.map_some, WideShapes.add_plain] at hcut
      go_ret2
      exact ⟨_, by rw [hfin.out]; rfl, by rw [hfin.out, hkk.out]; exact hcut, HB.out⟩
  · exact absurd ha2 (by rw [ha]; simp)

set_option maxRecDepth 100000 in
set_option maxHeartbeats 3200000 in
theorem rrem_more (l : List ByteArray) (v : Value) (line : ByteArray) (most : Int) (w : World) (hv : SL w v l) (hs : ∀ s ∈ l, s.size ≤ maxLen) (hl : line.size ≤ 1000)
    (h1 : 0 ≤ most) (h2 : most ≤ 200) (h3 : histB l = true) (h4 : cleanB line.data.toList = true) (ha : addB l line = true) :
    Calls Tryd.prog 12 #[v, .string line, .int .i64 most] w (RemPost w l line most) := by
  have hlm : line.size ≤ maxLen := by unfold maxLen; omega
  have hn2 : l.length ≤ 200 := by simp [histB] at h3; exact h3.1
  have g1 : ¬ most < 0 := by omega
  have g2 : ¬ 200 < most := by omega
  have hR := Lib.hid (historyForm_any l v w hv (by omega) hs)
  rw [show histE l = 0 by simp [histE, h3]] at hR
  have hI := Lib.hid (fun W => lineForm_one line W hlm)
  rw [h4] at hI
  have hC := Lib.hid (fun W (hb : Below w.heap.size w W) => clone_any l v W (hv.keep hb) (by omega))
  have hfin := Lib.hid (show remL l line most = ((l ++ [line]).drop ((l ++ [line]).length - most.toNat), 0) by unfold remL; rw [if_neg (by omega), if_neg (by simp [h3]), if_neg (by simp [h4]), if_neg (by omega)]; simp [remAll, ha])
  have hcs := Lib.hid (add_cases l line)
  clear hv hs h3 h4
  go_enter Tryd.func12, Tryd.ntmps12
  go_wp2_with (first | (go_at_call 36; refine hR.out.mono ?_; rintro e w1 ⟨rfl, hb⟩) | (go_at_call 37; refine (hI.out _).mono ?_; rintro e w2 ⟨rfl, hb2⟩))
  refine (hC.out _ (hb.trans (hb2.mono hb.size))).mono ?_
  rintro e w3 ⟨v3, rfl, ho, hb3⟩
  have HV := Lib.hid (SL.of_own ho)
  obtain ⟨A3, c3, rfl, hc3, hcells⟩ := SL.of_own ho
  have hb03 := (hb.trans (hb2.mono hb.size)).trans (hb3.mono (Nat.le_trans hb.size hb2.size))
  have HB := Lib.hid hb03
  obtain ⟨k, hk⟩ : ∃ k : Nat, max ((l.length : Int) + 1 - most) 0 = (k : Int) := ⟨l.length + 1 - most.toNat, by omega⟩
  have hk2 : k ≤ (l ++ [line]).length := by rw [List.length_append]; simp; omega
  have hkk := Lib.hid (show (l ++ [line]).length - most.toNat = k by rw [List.length_append]; simp; omega)
  have hk2' : k ≤ l.length + 1 := by omega
  have HZ := Lib.hid (hb.trans (hb2.mono hb.size)).size
  have hall := Lib.hid (show (l ++ [line]).length = l.length + 1 by simp)
  obtain ⟨i0, hi, hz0, hz1, hz2⟩ := info_parts strInfo
  rcases hcs.out with ⟨ha2, _⟩ | ⟨h0, e1, ⟨ha2, _⟩ | ⟨e2, ⟨_, e3⟩ | ⟨hp, ⟨ha2, _⟩ | ⟨_, e3⟩⟩⟩⟩
  · exact absurd ha2 (by rw [ha]; simp)
  · exact absurd ha2 (by rw [ha]; simp)
  · have hl0 : ((l.length : Int) == 0) = true := by rw [e3]; rfl
    have hz23 : w2.heap.size ≤ w3.heap.size := hb3.size
    clear hcs hb hb2 hb3 hb03 hcells e3
    go_wp2_with (at_builtin; refine wpList_append_own _ rfl _ _ 27 rfl w2.heap.size 9 i0 (.string ByteArray.empty) 1 16 Tryd.underlying27 hi hz0 hz1 hz2 rfl (by decide) _ _ _ rfl (ho.alloc _) ⟨w3.heap.size, 0, none⟩ 1 1 [.string line] rfl rfl ?c1 ?c2 ?c3 ?c4 ?c5 ?_)
    case c1 => exact cell_one_new _ _ _
    case c2 => intro u hu; simp at hu; subst hu; rfl
    case c3 => unfold maxLen; omega
    case c4 => omega
    case c5 => simp; omega
    intro v5 w5 hown5 hg5 _
    have hz02 : w.heap.size ≤ w2.heap.size := HZ.out
    have hb5 : Below w.heap.size w w5 := (HB.out.alloc HB.out.size _).grown hg5 (by simp; have := HB.out.size; omega) (fun g hg => by have := (ho.lt g hg).1; omega)
    have HB5 := Lib.hid hb5
    have HV5 := Lib.hid (SL.of_own (l := l ++ [line]) (by rw [List.map_append]; exact hown5))
    obtain ⟨A5, cc5, rfl, hc5, _⟩ := HV5.out
    rw [hall.out] at HV5 hc5 ⊢
    clear ho hown5 hg5 hb5 hz02
    go_wp2_with fail
    · have hck : cc5 = k := by assumption
      go_ret2
      exact ⟨_, by rw [hfin.out]; rfl, by rw [hfin.out, hkk.out]; exact HV5.out.cut0 hck, HB5.out⟩
    · have hck : ¬ cc5 = k := by assumption
      go_ret2
      exact ⟨_, by rw [hfin.out]; rfl, by rw [hfin.out, hkk.out]; exact HV5.out.cut hk2' hck, HB5.out⟩
  · exact absurd ha2 (by rw [ha]; simp)
  · obtain ⟨b, off, rfl, hlt, hcell⟩ := hcells hp
    have hce := hcell (l.length - 1) (by omega)
    have hl0 : ((l.length : Int) == 0) = false := by rw [beq_eq_false_iff_ne]; omega
    have hi1 : (0 : Int) ≤ (l.length : Int) - 1 := by omega
    have hi2 : ((l.length : Int) - 1).toNat = l.length - 1 := by omega
    generalize l[l.length - 1] = last at *
    have hz23 : w2.heap.size ≤ w3.heap.size := hb3.size
    clear hcs hb hb2 hb3 hb03 hcells hcell
    go_wp2_with (at_builtin; refine wpList_append_own _ rfl _ _ 27 rfl w2.heap.size 9 i0 (.string ByteArray.empty) 1 16 Tryd.underlying27 hi hz0 hz1 hz2 rfl (by decide) _ _ _ rfl (ho.alloc _) ⟨w3.heap.size, 0, none⟩ 1 1 [.string line] rfl rfl ?dc1 ?dc2 ?dc3 ?dc4 ?dc5 ?_)
    case dc1 => exact cell_one_new _ _ _
    case dc2 => intro u hu; simp at hu; subst hu; rfl
    case dc3 => unfold maxLen; omega
    case dc4 => omega
    case dc5 => simp; omega
    intro v5 w5 hown5 hg5 _
    have hz02 : w.heap.size ≤ w2.heap.size := HZ.out
    have hb5 : Below w.heap.size w w5 := (HB.out.alloc HB.out.size _).grown hg5 (by simp; have := HB.out.size; omega) (fun g hg => by have := (ho.lt g hg).1; omega)
    have HB5 := Lib.hid hb5
    have HV5 := Lib.hid (SL.of_own (l := l ++ [line]) (by rw [List.map_append]; exact hown5))
    obtain ⟨A5, cc5, rfl, hc5, _⟩ := HV5.out
    rw [hall.out] at HV5 hc5 ⊢
    clear ho hown5 hg5 hb5 hz02
    go_wp2_with fail
    · have hck : cc5 = k := by assumption
      go_ret2
      exact ⟨_, by rw [hfin.out]; rfl, by rw [hfin.out, hkk.out]; exact HV5.out.cut0 hck, HB5.out⟩
    · have hck : ¬ cc5 = k := by assumption
      go_ret2
      exact ⟨_, by rw [hfin.out]; rfl, by rw [hfin.out, hkk.out]; exact HV5.out.cut hk2' hck, HB5.out⟩

theorem rrem_any (l : List ByteArray) (v : Value) (line : ByteArray) (most : Int) (w : World) (hv : SL w v l) (hn : l.length ≤ 9223372036854775807) (hs : ∀ s ∈ l, s.size ≤ maxLen) (hl : line.size ≤ maxLen) :
    Calls Tryd.prog 12 #[v, .string line, .int .i64 most] w (RemPost w l line most) := by
  by_cases hx : ¬ (0 ≤ most ∧ most ≤ 200) ∨ histB l = false ∨ cleanB line.data.toList = false ∨ 1000 < line.size
  · exact rrem_err l v line most w hv hn hs hl hx
  · simp only [not_or, Classical.not_not, Bool.not_eq_false, Nat.not_lt] at hx
    obtain ⟨⟨h1, h2⟩, h3, h4, h5⟩ := hx
    cases ha : addB l line
    · exact rrem_keep l v line most w hv hs h5 h1 h2 h3 h4 ha
    · exact rrem_more l v line most w hv hs h5 h1 h2 h3 h4 ha

end Go.Proofs.YtokmiommhfbkeaaDoor
