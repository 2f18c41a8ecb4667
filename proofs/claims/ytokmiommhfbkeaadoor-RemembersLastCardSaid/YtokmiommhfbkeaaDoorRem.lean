/- Remember: the program's and the reference's give the same history. -/
import Derived.Test.YtokmiommhfbkeaaDoorHist
import Derived.Test.YtokmiommhfbkeaaDoorRow
namespace Go.Proofs.YtokmiommhfbkeaaDoor
open Go.RowKit

/-- is the line added to the history? -/
def addB (l : List ByteArray) (line : ByteArray) : Bool := match line.data.toList with
  | [] => false
  | c :: _ => !(c == 32) && !(decide (l.getLast? = some line))
def remAll (l : List ByteArray) (line : ByteArray) : List ByteArray := if addB l line then l ++ [line] else l
def remL (l : List ByteArray) (line : ByteArray) (most : Int) : List ByteArray × Int :=
  if ¬ (0 ≤ most ∧ most ≤ 200) then ([], 3)
  else if !histB l then ([], 2)
  else if !cleanB line.data.toList then ([], 5)
  else if 1000 < line.size then ([], 2)
  else ((remAll l line).drop ((remAll l line).length - most.toNat), 0)

def RemPost (w : World) (l : List ByteArray) (line : ByteArray) (most : Int) (e : Ending) (w' : World) : Prop :=
  ∃ v, e = .returned (.tuple #[v, .int .i64 (remL l line most).2]) ∧ SL w' v (remL l line most).1 ∧ Below w.heap.size w w'

theorem SL.nil (w : World) : SL w (.slice none 0 0) [] := ⟨none, 0, rfl, Nat.le_refl _, fun h => by simp at h⟩

set_option maxHeartbeats 800000 in
theorem rem_err (l : List ByteArray) (v : Value) (line : ByteArray) (most : Int) (w : World) (hv : SL w v l) (hn : l.length ≤ 9223372036854775807) (hs : ∀ s ∈ l, s.size ≤ maxLen) (hl : line.size ≤ maxLen)
    (hx : ¬ (0 ≤ most ∧ most ≤ 200) ∨ histB l = false ∨ cleanB line.data.toList = false ∨ 1000 < line.size) :
    Calls Tryd.prog 11 #[v, .string line, .int .i64 most] w (RemPost w l line most) := by
  have hR := Lib.hid (rightHistory_any l v w hv hn hs)
  by_cases h1 : 0 ≤ most ∧ most ≤ 200
  · have hw1 : withinB most 0 200 = true := by simp [withinB]; omega
    cases h2 : histB l
    · have hfin := Lib.hid (show remL l line most = ([], 2) by unfold remL; rw [if_neg (by simpa using h1), if_pos (by simp [h2])])
      rw [h2] at hR
      clear hv hx hs h2
      go_enter Tryd.func11, Tryd.ntmps11
      go_wp2_with (first | (go_at_call 27; refine (within_any _ _ _ _).mono ?_; rintro e w' ⟨rfl, rfl⟩) | (go_at_call 33; refine hR.out.mono ?_; rintro e w1 ⟨rfl, hb⟩))
      go_ret2
      exact ⟨_, by rw [hfin.out]; rfl, by rw [hfin.out]; exact SL.nil _, hb⟩
    · rw [h2] at hR
      have hI := Lib.hid (fun W => indexAny_any line W hl)
      cases h3 : cleanB line.data.toList
      · have hfin := Lib.hid (show remL l line most = ([], 5) by unfold remL; rw [if_neg (by simpa using h1), if_neg (by simp [h2]), if_pos (by simp [h3])])
        have hneg : 0 ≤ Lib.indexAny line.data.toList zn.data.toList := by unfold cleanB at h3; rw [decide_eq_false_iff_not] at h3; omega
        clear hv hx hs h2 h3
        go_enter Tryd.func11, Tryd.ntmps11
        go_wp2_with (first | (go_at_call 27; refine (within_any _ _ _ _).mono ?_; rintro e w' ⟨rfl, rfl⟩) | (go_at_call 33; refine hR.out.mono ?_; rintro e w1 ⟨rfl, hb⟩) | (go_at_call 34; refine (hI.out _).mono ?_; rintro e w2 ⟨rfl, hb2⟩))
        go_ret2
        exact ⟨_, by rw [hfin.out]; rfl, by rw [hfin.out]; exact SL.nil _, hb.trans (hb2.mono hb.size)⟩
      · have h4 : 1000 < line.size := by
          rcases hx with hx | hx | hx | hx
          · exact absurd h1 hx
          · rw [h2] at hx; cases hx
          · rw [h3] at hx; cases hx
          · exact hx
        have hfin := Lib.hid (show remL l line most = ([], 2) by unfold remL; rw [if_neg (by simpa using h1), if_neg (by simp [h2]), if_neg (by simp [h3]), if_pos h4])
        have hneg : ¬ 0 ≤ Lib.indexAny line.data.toList zn.data.toList := by unfold cleanB at h3; rw [decide_eq_true_iff] at h3; omega
        clear hv hx hs h2 h3
        go_enter Tryd.func11, Tryd.ntmps11
        go_wp2_with (first | (go_at_call 27; refine (within_any _ _ _ _).mono ?_; rintro e w' ⟨rfl, rfl⟩) | (go_at_call 33; refine hR.out.mono ?_; rintro e w1 ⟨rfl, hb⟩) | (go_at_call 34; refine (hI.out _).mono ?_; rintro e w2 ⟨rfl, hb2⟩))
        go_ret2
        exact ⟨_, by rw [hfin.out]; rfl, by rw [hfin.out]; exact SL.nil _, hb.trans (hb2.mono hb.size)⟩
  · have hw1 : withinB most 0 200 = false := by
      cases h : withinB most 0 200
      · rfl
      · exfalso; simp [withinB] at h; omega
    have hfin := Lib.hid (show remL l line most = ([], 3) by unfold remL; rw [if_pos h1])
    clear hv hx hs h1
    go_enter Tryd.func11, Tryd.ntmps11
    go_wp2_with (go_at_call 27; refine (within_any _ _ _ _).mono ?_; rintro e w' ⟨rfl, rfl⟩)
    go_ret2
    exact ⟨_, by rw [hfin.out]; rfl, by rw [hfin.out]; exact SL.nil _, Below.refl _ _⟩

/-- the first ways of the test whether a line is added -/
theorem add_cases (l : List ByteArray) (line : ByteArray) :
    (addB l line = false ∧ line.toList.isEmpty = true) ∨
    (∃ h : 0 < line.size, line.toList.isEmpty = false ∧
      ((addB l line = false ∧ ((line[0].toNat : Int) != 32) = false) ∨
       (((line[0].toNat : Int) != 32) = true ∧
         ((addB l line = true ∧ l = []) ∨
          (∃ h2 : 0 < l.length, (addB l line = false ∧ (l[l.length - 1].toList == line.toList) = true) ∨ (addB l line = true ∧ (l[l.length - 1].toList == line.toList) = false)))))) := by
  rw [ByteArray.toList_eq]
  cases hl : line.data.toList with
  | nil => exact .inl ⟨by simp [addB, hl], rfl⟩
  | cons c r =>
    have h0 : 0 < line.size := by rw [← size_toList, hl]; simp
    have hc : line[0] = c := by
      have : line.data.toList[0]? = some line[0] := by rw [List.getElem?_eq_getElem (by rw [size_toList]; exact h0)]; rfl
      rw [hl] at this; simpa using this.symm
    refine .inr ⟨h0, rfl, ?_⟩
    by_cases h32 : c = 32
    · exact .inl ⟨by simp [addB, hl, h32], by rw [hc, h32]; decide⟩
    · have hne : ((line[0].toNat : Int) != 32) = true := by
        rw [hc, bne_iff_ne]; intro h; exact h32 (UInt8.toNat_inj.1 (by rw [show (32 : UInt8).toNat = 32 from rfl]; omega))
      refine .inr ⟨hne, ?_⟩
      by_cases hl0 : l = []
      · exact .inl ⟨by simp [addB, hl, h32, hl0], hl0⟩
      · have hp : 0 < l.length := List.length_pos_iff.2 hl0
        have hlast : l.getLast? = some l[l.length - 1] := by rw [List.getLast?_eq_getElem?, List.getElem?_eq_getElem (by omega)]
        refine .inr ⟨hp, ?_⟩
        by_cases he : l[l.length - 1] = line
        · exact .inl ⟨by simp [addB, hl, hlast, he], by rw [he, ByteArray.toList_eq, hl]; simp⟩
        · refine .inr ⟨by simp [addB, hl, h32, hlast, he], ?_⟩
          rw [← hl, ByteArray.toList_eq, beq_eq_false_iff_ne]
          intro h; exact he (ByteArray.ext (Array.ext' h))

set_option maxHeartbeats 1600000 in
theorem rem_keep (l : List ByteArray) (v : Value) (line : ByteArray) (most : Int) (w : World) (hv : SL w v l) (hs : ∀ s ∈ l, s.size ≤ maxLen) (hl : line.size ≤ 1000)
    (h1 : 0 ≤ most) (h2 : most ≤ 200) (h3 : histB l = true) (h4 : cleanB line.data.toList = true) (ha : addB l line = false) :
    Calls Tryd.prog 11 #[v, .string line, .int .i64 most] w (RemPost w l line most) := by
  have hlm : line.size ≤ maxLen := by unfold maxLen; omega
  have hn2 : l.length ≤ 200 := by simp [histB] at h3; exact h3.1
  have hw1 : withinB most 0 200 = true := by simp [withinB]; omega
  have hR := Lib.hid (rightHistory_any l v w hv (by omega) hs)
  rw [h3] at hR
  have hI := Lib.hid (fun W => indexAny_any line W hlm)
  have hneg : ¬ 0 ≤ Lib.indexAny line.data.toList zn.data.toList := by unfold cleanB at h4; rw [decide_eq_true_iff] at h4; omega
  have hC := Lib.hid (fun W (hb : Below w.heap.size w W) => clone_any l v W (hv.keep hb) (by omega))
  have hfin := Lib.hid (show remL l line most = (l.drop (l.length - most.toNat), 0) by unfold remL; rw [if_neg (by omega), if_neg (by simp [h3]), if_neg (by simp [h4]), if_neg (by omega)]; simp [remAll, ha])
  have hcs := Lib.hid (add_cases l line)
  clear hv hs h3 h4
  go_enter Tryd.func11, Tryd.ntmps11
  go_wp2_with (first | (go_at_call 27; refine (within_any _ _ _ _).mono ?_; rintro e w' ⟨rfl, rfl⟩) | (go_at_call 33; refine hR.out.mono ?_; rintro e w1 ⟨rfl, hb⟩) | (go_at_call 34; refine (hI.out _).mono ?_; rintro e w2 ⟨rfl, hb2⟩))
  refine (hC.out _ (hb.trans (hb2.mono hb.size))).mono ?_
  rintro e w3 ⟨v3, rfl, ho, hb3⟩
  have HV := Lib.hid (SL.of_own ho)
  obtain ⟨A3, c3, rfl, hc3, hcells⟩ := SL.of_own ho
  have hb03 := (hb.trans (hb2.mono hb.size)).trans (hb3.mono (Nat.le_trans hb.size hb2.size))
  have HB := Lib.hid hb03
  obtain ⟨k, hk⟩ : ∃ k : Nat, max ((l.length : Int) - most) 0 = (k : Int) := ⟨l.length - most.toNat, by omega⟩
  have hk2 : k ≤ l.length := by omega
  have hkk := Lib.hid (show l.length - most.toNat = k by omega)
  rcases hcs.out with ⟨_, e1⟩ | ⟨h0, e1, ⟨_, e2⟩ | ⟨e2, ⟨ha2, _⟩ | ⟨hp, ⟨_, e3⟩ | ⟨ha2, _⟩⟩⟩⟩
  · clear hcs hb hb2 hb3 ho hb03 hcells
    go_wp2_with fail
    · have hck : c3 = k := by assumption
      refine (clone_any (l.drop k) _ w3 (HV.out.cut0 hck) (by rw [List.length_drop]; omega)).mono ?_
      rintro e w4 ⟨v4, rfl, ho4, hb4⟩
      have HV4 := Lib.hid (SL.of_own ho4)
      clear ho4
      go_wp2
      go_ret2
      exact ⟨_, by rw [hfin.out]; rfl, by rw [hfin.out, hkk.out]; exact HV4.out, HB.out.trans (hb4.mono HB.out.size)⟩
    · have hck : ¬ c3 = k := by assumption
      refine (clone_any (l.drop k) _ w3 (HV.out.cut hk2 hck) (by rw [List.length_drop]; omega)).mono ?_
      rintro e w4 ⟨v4, rfl, ho4, hb4⟩
      have HV4 := Lib.hid (SL.of_own ho4)
      clear ho4
      go_wp2
      go_ret2
      exact ⟨_, by rw [hfin.out]; rfl, by rw [hfin.out, hkk.out]; exact HV4.out, HB.out.trans (hb4.mono HB.out.size)⟩
  · clear hcs hb hb2 hb3 ho hb03 hcells
    go_wp2_with fail
    · have hck : c3 = k := by assumption
      refine (clone_any (l.drop k) _ w3 (HV.out.cut0 hck) (by rw [List.length_drop]; omega)).mono ?_
      rintro e w4 ⟨v4, rfl, ho4, hb4⟩
      have HV4 := Lib.hid (SL.of_own ho4)
      clear ho4
      go_wp2
      go_ret2
      exact ⟨_, by rw [hfin.out]; rfl, by rw [hfin.out, hkk.out]; exact HV4.out, HB.out.trans (hb4.mono HB.out.size)⟩
    · have hck : ¬ c3 = k := by assumption
      refine (clone_any (l.drop k) _ w3 (HV.out.cut hk2 hck) (by rw [List.length_drop]; omega)).mono ?_
      rintro e w4 ⟨v4, rfl, ho4, hb4⟩
      have HV4 := Lib.hid (SL.of_own ho4)
      clear ho4
      go_wp2
      go_ret2
      exact ⟨_, by rw [hfin.out]; rfl, by rw [hfin.out, hkk.out]; exact HV4.out, HB.out.trans (hb4.mono HB.out.size)⟩
  · exact absurd ha2 (by rw [ha]; simp)
  · obtain ⟨b, off, rfl, hlt, hcell⟩ := hcells hp
    have hce := hcell (l.length - 1) (by omega)
    have hl0 : ((l.length : Int) == 0) = false := by rw [beq_eq_false_iff_ne]; omega
    have hi1 : (0 : Int) ≤ (l.length : Int) - 1 := by omega
    have hi2 : ((l.length : Int) - 1).toNat = l.length - 1 := by omega
    generalize l[l.length - 1] = last at *
    clear hcs hb hb2 hb3 ho hb03 hcells hcell
    go_wp2_with fail
    · have hck : c3 = k := by assumption
      refine (clone_any (l.drop k) _ w3 (HV.out.cut0 hck) (by rw [List.length_drop]; omega)).mono ?_
      rintro e w4 ⟨v4, rfl, ho4, hb4⟩
      have HV4 := Lib.hid (SL.of_own ho4)
      clear ho4
      go_wp2
      go_ret2
      exact ⟨_, by rw [hfin.out]; rfl, by rw [hfin.out, hkk.out]; exact HV4.out, HB.out.trans (hb4.mono HB.out.size)⟩
    · have hck : ¬ c3 = k := by assumption
      have hcut := HV.out.cut hk2 hck
      rw [Option.map_some, WideShapes.add_plain] at hcut
      refine (clone_any (l.drop k) _ w3 hcut (by rw [List.length_drop]; omega)).mono ?_
      rintro e w4 ⟨v4, rfl, ho4, hb4⟩
      have HV4 := Lib.hid (SL.of_own ho4)
      clear ho4 hcut
      go_wp2
      go_ret2
      exact ⟨_, by rw [hfin.out]; rfl, by rw [hfin.out, hkk.out]; exact HV4.out, HB.out.trans (hb4.mono HB.out.size)⟩
  · exact absurd ha2 (by rw [ha]; simp)

theorem strInfo : (Tryd.prog.info? 9).map (fun i => (i.zero, i.size, i.bytes)) = some (some (.string ByteArray.empty), 1, 16) := by kernel_rfl

set_option maxRecDepth 100000 in
set_option maxHeartbeats 3200000 in
theorem rem_more (l : List ByteArray) (v : Value) (line : ByteArray) (most : Int) (w : World) (hv : SL w v l) (hs : ∀ s ∈ l, s.size ≤ maxLen) (hl : line.size ≤ 1000)
    (h1 : 0 ≤ most) (h2 : most ≤ 200) (h3 : histB l = true) (h4 : cleanB line.data.toList = true) (ha : addB l line = true) :
    Calls Tryd.prog 11 #[v, .string line, .int .i64 most] w (RemPost w l line most) := by
  have hlm : line.size ≤ maxLen := by unfold maxLen; omega
  have hn2 : l.length ≤ 200 := by simp [histB] at h3; exact h3.1
  have hw1 : withinB most 0 200 = true := by simp [withinB]; omega
  have hR := Lib.hid (rightHistory_any l v w hv (by omega) hs)
  rw [h3] at hR
  have hI := Lib.hid (fun W => indexAny_any line W hlm)
  have hneg : ¬ 0 ≤ Lib.indexAny line.data.toList zn.data.toList := by unfold cleanB at h4; rw [decide_eq_true_iff] at h4; omega
  have hC := Lib.hid (fun W (hb : Below w.heap.size w W) => clone_any l v W (hv.keep hb) (by omega))
  have hfin := Lib.hid (show remL l line most = ((l ++ [line]).drop ((l ++ [line]).length - most.toNat), 0) by unfold remL; rw [if_neg (by omega), if_neg (by simp [h3]), if_neg (by simp [h4]), if_neg (by omega)]; simp [remAll, ha])
  have hcs := Lib.hid (add_cases l line)
  clear hv hs h3 h4
  go_enter Tryd.func11, Tryd.ntmps11
  go_wp2_with (first | (go_at_call 27; refine (within_any _ _ _ _).mono ?_; rintro e w' ⟨rfl, rfl⟩) | (go_at_call 33; refine hR.out.mono ?_; rintro e w1 ⟨rfl, hb⟩) | (go_at_call 34; refine (hI.out _).mono ?_; rintro e w2 ⟨rfl, hb2⟩))
  refine (hC.out _ (hb.trans (hb2.mono hb.size))).mono ?_
  rintro e w3 ⟨v3, rfl, ho, hb3⟩
  have HV := Lib.hid (SL.of_own ho)
  obtain ⟨A3, c3, rfl, hc3, hcells⟩ := SL.of_own ho
  have hb03 := (hb.trans (hb2.mono hb.size)).trans (hb3.mono (Nat.le_trans hb.size hb2.size))
  have HB := Lib.hid hb03
  obtain ⟨k, hk⟩ : ∃ k : Nat, max ((l.length : Int) + 1 - most) 0 = (k : Int) := ⟨l.length + 1 - most.toNat, by omega⟩
  have hk2 : k ≤ (l ++ [line]).length := by rw [List.length_append]; simp; omega
  have hkk := Lib.hid (show (l ++ [line]).length - most.toNat = k by rw [List.length_append]; simp; omega)
  have hk2' : k ≤ l.length + 1 := by omega
  have HZ := Lib.hid (hb.trans (hb2.mono hb.size)).size
  have hall := Lib.hid (show (l ++ [line]).length = l.length + 1 by simp)
  obtain ⟨i0, hi, hz0, hz1, hz2⟩ := info_parts strInfo
  rcases hcs.out with ⟨ha2, _⟩ | ⟨h0, e1, ⟨ha2, _⟩ | ⟨e2, ⟨_, e3⟩ | ⟨hp, ⟨ha2, _⟩ | ⟨_, e3⟩⟩⟩⟩
  · exact absurd ha2 (by rw [ha]; simp)
  · exact absurd ha2 (by rw [ha]; simp)
  · have hl0 : ((l.length : Int) == 0) = true := by rw [e3]; rfl
    have hz23 : w2.heap.size ≤ w3.heap.size := hb3.size
    clear hcs hb hb2 hb3 hb03 hcells e3
    go_wp2_with (at_builtin; refine wpList_append_own _ rfl _ _ 27 rfl w2.heap.size 9 i0 (.string ByteArray.empty) 1 16 Tryd.underlying27 hi hz0 hz1 hz2 rfl (by decide) _ _ _ rfl (ho.alloc _) ⟨w3.heap.size, 0, none⟩ 1 1 [.string line] rfl rfl ?c1 ?c2 ?c3 ?c4 ?c5 ?_)
    case c1 => exact cell_one_new _ _ _
    case c2 => intro u hu; simp at hu; subst hu; rfl
    case c3 => unfold maxLen; omega
    case c4 => omega
    case c5 => simp; omega
    intro v5 w5 hown5 hg5 _
    have hz02 : w.heap.size ≤ w2.heap.size := HZ.out
    have hb5 : Below w.heap.size w w5 := (HB.out.alloc HB.out.size _).grown hg5 (by simp; have := HB.out.size; omega) (fun g hg => by have := (ho.lt g hg).1; omega)
    have HB5 := Lib.hid hb5
    have HV5 := Lib.hid (SL.of_own (l := l ++ [line]) (by rw [List.map_append]; exact hown5))
    obtain ⟨A5, cc5, rfl, hc5, _⟩ := HV5.out
    rw [hall.out] at HV5 hc5 ⊢
    clear ho hown5 hg5 hb5 hz02
    go_wp2_with fail
    · have hck : cc5 = k := by assumption
      refine (clone_any ((l ++ [line]).drop k) _ w5 (HV5.out.cut0 hck) (by rw [List.length_drop, hall.out]; omega)).mono ?_
      rintro e w6 ⟨v6, rfl, ho6, hb6⟩
      have HV6 := Lib.hid (SL.of_own ho6)
      clear ho6
      go_wp2
      go_ret2
      exact ⟨_, by rw [hfin.out]; rfl, by rw [hfin.out, hkk.out]; exact HV6.out, HB5.out.trans (hb6.mono HB5.out.size)⟩
    · have hck : ¬ cc5 = k := by assumption
      refine (clone_any ((l ++ [line]).drop k) _ w5 (HV5.out.cut hk2' hck) (by rw [List.length_drop, hall.out]; omega)).mono ?_
      rintro e w6 ⟨v6, rfl, ho6, hb6⟩
      have HV6 := Lib.hid (SL.of_own ho6)
      clear ho6
      go_wp2
      go_ret2
      exact ⟨_, by rw [hfin.out]; rfl, by rw [hfin.out, hkk.out]; exact HV6.out, HB5.out.trans (hb6.mono HB5.out.size)⟩
  · exact absurd ha2 (by rw [ha]; simp)
  · obtain ⟨b, off, rfl, hlt, hcell⟩ := hcells hp
    have hce := hcell (l.length - 1) (by omega)
    have hl0 : ((l.length : Int) == 0) = false := by rw [beq_eq_false_iff_ne]; omega
    have hi1 : (0 : Int) ≤ (l.length : Int) - 1 := by omega
    have hi2 : ((l.length : Int) - 1).toNat = l.length - 1 := by omega
    generalize l[l.length - 1] = last at *
    have hz23 : w2.heap.size ≤ w3.heap.size := hb3.size
    clear hcs hb hb2 hb3 hb03 hcells hcell
    go_wp2_with (at_builtin; refine wpList_append_own _ rfl _ _ 27 rfl w2.heap.size 9 i0 (.string ByteArray.empty) 1 16 Tryd.underlying27 hi hz0 hz1 hz2 rfl (by decide) _ _ _ rfl (ho.alloc _) ⟨w3.heap.size, 0, none⟩ 1 1 [.string line] rfl rfl ?dc1 ?dc2 ?dc3 ?dc4 ?dc5 ?_)
    case dc1 => exact cell_one_new _ _ _
    case dc2 => intro u hu; simp at hu; subst hu; rfl
    case dc3 => unfold maxLen; omega
    case dc4 => omega
    case dc5 => simp; omega
    intro v5 w5 hown5 hg5 _
    have hz02 : w.heap.size ≤ w2.heap.size := HZ.out
    have hb5 : Below w.heap.size w w5 := (HB.out.alloc HB.out.size _).grown hg5 (by simp; have := HB.out.size; omega) (fun g hg => by have := (ho.lt g hg).1; omega)
    have HB5 := Lib.hid hb5
    have HV5 := Lib.hid (SL.of_own (l := l ++ [line]) (by rw [List.map_append]; exact hown5))
    obtain ⟨A5, cc5, rfl, hc5, _⟩ := HV5.out
    rw [hall.out] at HV5 hc5 ⊢
    clear ho hown5 hg5 hb5 hz02
    go_wp2_with fail
    · have hck : cc5 = k := by assumption
      refine (clone_any ((l ++ [line]).drop k) _ w5 (HV5.out.cut0 hck) (by rw [List.length_drop, hall.out]; omega)).mono ?_
      rintro e w6 ⟨v6, rfl, ho6, hb6⟩
      have HV6 := Lib.hid (SL.of_own ho6)
      clear ho6
      go_wp2
      go_ret2
      exact ⟨_, by rw [hfin.out]; rfl, by rw [hfin.out, hkk.out]; exact HV6.out, HB5.out.trans (hb6.mono HB5.out.size)⟩
    · have hck : ¬ cc5 = k := by assumption
      refine (clone_any ((l ++ [line]).drop k) _ w5 (HV5.out.cut hk2' hck) (by rw [List.length_drop, hall.out]; omega)).mono ?_
      rintro e w6 ⟨v6, rfl, ho6, hb6⟩
      have HV6 := Lib.hid (SL.of_own ho6)
      clear ho6
      go_wp2
      go_ret2
      exact ⟨_, by rw [hfin.out]; rfl, by rw [hfin.out, hkk.out]; exact HV6.out, HB5.out.trans (hb6.mono HB5.out.size)⟩

theorem rem_any (l : List ByteArray) (v : Value) (line : ByteArray) (most : Int) (w : World) (hv : SL w v l) (hn : l.length ≤ 9223372036854775807) (hs : ∀ s ∈ l, s.size ≤ maxLen) (hl : line.size ≤ maxLen) :
    Calls Tryd.prog 11 #[v, .string line, .int .i64 most] w (RemPost w l line most) := by
  by_cases hx : ¬ (0 ≤ most ∧ most ≤ 200) ∨ histB l = false ∨ cleanB line.data.toList = false ∨ 1000 < line.size
  · exact rem_err l v line most w hv hn hs hl hx
  · simp only [not_or, Classical.not_not, Bool.not_eq_false, Nat.not_lt] at hx
    obtain ⟨⟨h1, h2⟩, h3, h4, h5⟩ := hx
    cases ha : addB l line
    · exact rem_keep l v line most w hv hs h5 h1 h2 h3 h4 ha
    · exact rem_more l v line most w hv hs h5 h1 h2 h3 h4 ha

end Go.Proofs.YtokmiommhfbkeaaDoor
