/- The program's Draw where the rows are the same, and where they differ: it returns what drawL tells. -/
import Derived.Test.YtokmiommhfbkeaaGreatDoorDrawWalk
import Derived.Deep.RegionWith
namespace Go.Proofs.YtokmiommhfbkeaaGreatDoor
open Go.RowKit
set_option maxHeartbeats 800000 in
theorem draw_same (row : ByteArray) (col : Int) (tt : ByteArray) (toCol : Int) (w : World) (hp : Pow w) (_hs : row.size ≤ maxLen) (ht : tt.size ≤ maxLen) (hw : (wrongB row.data.toList || wrongB tt.data.toList) = false) (hl : row.size ≤ 200) (hl2 : tt.size ≤ 200) (hc : 0 ≤ col ∧ col ≤ 200 ∧ 0 ≤ toCol ∧ toCol ≤ 200) (he : row.data.toList = tt.data.toList) :
    Calls Tryz.prog 21 #[.string row, .int .i64 col, .string tt, .int .i64 toCol] w fun e w' => e = .returned (drawR row col tt toCol) ∧ Below w.heap.size w w' := by
  have hfin := Lib.hid (show drawL row.data.toList col tt.data.toList toCol = (movedL col toCol, 0) by unfold drawL; rw [if_neg (by simp [hw]), if_neg (by rw [size_toList, size_toList]; omega), if_neg (by simpa using hc), if_pos he])
  obtain rfl : row = tt := ByteArray.ext (Array.ext' he)
  have hr : wrongB row.data.toList = false := by simpa using hw
  have c1 : withinB col 0 200 = true := by simp [withinB]; omega
  have c2 : withinB toCol 0 200 = true := by simp [withinB]; omega
  obtain ⟨hc1, hc2, hc3, hc4⟩ := hc
  clear hw he
  go_enter Tryz.func21, Tryz.ntmps21
  go_wp2_with (first | (go_at_call 55; refine (wrong_any _ _ (by assumption)).mono ?_; rintro e w' ⟨rfl, rfl⟩) | (go_at_call 53; refine (within_any _ _ _ _).mono ?_; rintro e w' ⟨rfl, rfl⟩) | (go_at_call 57; refine (moved_any _ _ (by assumption) (by assumption) (by assumption) (by assumption) _ hp).mono ?_; rintro e w' ⟨rfl, hb⟩))
  go_ret2
  exact ⟨drawR_of (by rw [hfin.out]), hb⟩

theorem extract_list (s : ByteArray) (k : Nat) : (s.extract k s.size).data.toList = s.data.toList.drop k := by
  rw [Lib.extract_data, List.take_of_length_le (by rw [List.length_drop, size_toList]; omega)]
theorem draw_fin1 (x y : List UInt8) (s : ByteArray) (k : Nat) : (((⟨x.toArray⟩ ++ s.extract k s.size) ++ ⟨#[27, 91, 75]⟩) ++ ⟨y.toArray⟩ : ByteArray).data.toList = x ++ s.data.toList.drop k ++ [27, 91, 75] ++ y := by
  simp only [ByteArray.data_append, Array.toList_append, extract_list]
theorem draw_fin2 (x y : List UInt8) (s : ByteArray) (k : Nat) : ((⟨x.toArray⟩ ++ s.extract k s.size) ++ ⟨y.toArray⟩ : ByteArray).data.toList = x ++ s.data.toList.drop k ++ [] ++ y := by
  simp only [ByteArray.data_append, Array.toList_append, extract_list, List.append_nil]
set_option maxHeartbeats 3200000 in
theorem draw_other (row : ByteArray) (col : Int) (tt : ByteArray) (toCol : Int) (w : World) (hp : Pow w) (hs : row.size ≤ maxLen) (ht : tt.size ≤ maxLen) (hw : (wrongB row.data.toList || wrongB tt.data.toList) = false) (hl : row.size ≤ 200) (hl2 : tt.size ≤ 200) (hc : 0 ≤ col ∧ col ≤ 200 ∧ 0 ≤ toCol ∧ toCol ≤ 200) (he : ¬ row.data.toList = tt.data.toList) :
    Calls Tryz.prog 21 #[.string row, .int .i64 col, .string tt, .int .i64 toCol] w fun e w' => e = .returned (drawR row col tt toCol) ∧ Below w.heap.size w w' := by
  have hfin := Lib.hid (show drawL row.data.toList col tt.data.toList toCol = (movedL col (comm row.data.toList tt.data.toList) ++ tt.data.toList.drop (comm row.data.toList tt.data.toList) ++ (if tt.data.toList.length < row.data.toList.length then [27, 91, 75] else []) ++ movedL tt.data.toList.length toCol, 0) by unfold drawL; rw [if_neg (by simp [hw]), if_neg (by rw [size_toList, size_toList]; omega), if_neg (by simpa using hc), if_neg he])
  have hne : (row.toList == tt.toList) = false := by
    rw [ByteArray.toList_eq, ByteArray.toList_eq, beq_eq_false_iff_ne]; exact he
  have hr : wrongB row.data.toList = false := by simp at hw; exact hw.1
  have ht2 : wrongB tt.data.toList = false := by simp at hw; exact hw.2
  have c1 : withinB col 0 200 = true := by simp [withinB]; omega
  have c2 : withinB toCol 0 200 = true := by simp [withinB]; omega
  obtain ⟨hc1, hc2, hc3, hc4⟩ := hc
  clear hw he
  go_enter Tryz.func21, Tryz.ntmps21
  go_wp2_with (first | (go_at_call 55; refine (wrong_any _ _ (by assumption)).mono ?_; rintro e w' ⟨rfl, rfl⟩) | (go_at_call 53; refine (within_any _ _ _ _).mono ?_; rintro e w' ⟨rfl, rfl⟩))
  go_loopw [11] (fun b wr => ∃ k : Nat, k ≤ comm row.data.toList tt.data.toList ∧ b = .int .i64 k ∧ Below w.heap.size w wr) (fun b _ => row.size - (intOf b).toNat)
  case atStart => exact ⟨0, Nat.zero_le _, rfl, Below.refl _ _⟩
  case round =>
    obtain ⟨k, hk, rfl, hbw⟩ := hrel
    have hcl := comm_le row.data.toList tt.data.toList
    rw [size_toList, size_toList] at hcl
    have hgo : (∃ (a1 : k < row.size) (a2 : k < tt.size), row[k] = tt[k]) ∨ (comm row.data.toList tt.data.toList = k ∧ ((∃ (a1 : k < row.size) (a2 : k < tt.size), ((row[k].toNat : Int) == (tt[k].toNat : Int)) = false) ∨ (k < row.size ∧ decide ((k : Int) < tt.size) = false ∧ ¬ k < tt.size) ∨ (decide ((k : Int) < row.size) = false ∧ ¬ k < row.size))) := by
      by_cases a1 : k < row.size
      · by_cases a2 : k < tt.size
        · by_cases a3 : row[k] = tt[k]
          · exact .inl ⟨a1, a2, a3⟩
          · have hk' := comm_differ row.data.toList tt.data.toList k row[k] tt[k] hk (by rw [List.getElem?_eq_getElem (by rw [size_toList]; exact a1)]; rfl) (by rw [List.getElem?_eq_getElem (by rw [size_toList]; exact a2)]; rfl) a3
            exact .inr ⟨hk', .inl ⟨a1, a2, by rw [beq_eq_false_iff_ne]; intro h; exact a3 (UInt8.toNat_inj.1 (by omega))⟩⟩
        · exact .inr ⟨by omega, .inr (.inl ⟨a1, by simp; omega, a2⟩)⟩
      · exact .inr ⟨by omega, .inr (.inr ⟨by simp; omega, a1⟩)⟩
    rcases hgo with ⟨a1, a2, a3⟩ | ⟨hk', hgo⟩
    · have hk' := comm_step row.data.toList tt.data.toList k row[k] hk (by rw [List.getElem?_eq_getElem (by rw [size_toList]; exact a1)]; rfl) (by rw [List.getElem?_eq_getElem (by rw [size_toList]; exact a2), a3]; rfl)
      have hkl : k + 1 ≤ row.size := by omega
      have a4 : ((row[k].toNat : Int) == (tt[k].toNat : Int)) = true := by rw [a3]; simp
      clear a3
      go_wp2_with fail
      go_quiet (fail)
      go_wp2
      go_roundw
      case rel => exact ⟨k + 1, hk', by go_num, (below_drewN hbw _)⟩
      case measure => simp [intOf]; omega
    · rw [hk'] at hfin
      have hkr : k ≤ row.size := by omega
      have hkt : k ≤ tt.size := by omega
      have hp1 : ∀ n, Pow (wr.drewN n) := fun n => hp.keep (below_drewN hbw _)
      have hml := movedL_len col k (by assumption) (by assumption) (by omega) (by omega)
      have hmt := movedL_len tt.size toCol (by omega) (by omega) (by assumption) (by assumption)
      have hex : (tt.extract k tt.size).size ≤ 200 := by rw [ByteArray.size_extract]; omega
      clear hk'
      rcases hgo with ⟨a1, a2, a4⟩ | ⟨a1, a2, a3⟩ | ⟨a1, a2⟩
      all_goals
        go_wp2_with fail
        go_quiet (fail)
        go_wp2_with fail
        go_region_with (go_at_call 57; refine (moved_any _ _ (by assumption) (by assumption) (by omega) (by omega) _ (hp1 _)).mono ?_; rintro e w1 ⟨rfl, hb1⟩)
        have hp2 : Pow w1 := (hp1 _).keep hb1
        have hbz : Below w.heap.size w w1 := (below_drewN hbw _).trans (hb1.mono hbw.size)
        by_cases hlt : tt.size < row.size
        · first
            | (exfalso; omega)
            | (rw [if_pos (by rw [size_toList, size_toList]; exact hlt), size_toList] at hfin
               go_wp2_with (go_at_call 57; refine (moved_any _ _ (by omega) (by omega) (by assumption) (by assumption) _ hp2).mono ?_; rintro e w2 ⟨rfl, hb2⟩)
               go_ret2
               exact ⟨drawR_of (by rw [hfin.out, draw_fin1]), hbz.trans (hb2.mono hbz.size)⟩)
        · rw [if_neg (by rw [size_toList, size_toList]; exact hlt), size_toList] at hfin
          go_wp2_with (go_at_call 57; refine (moved_any _ _ (by omega) (by omega) (by assumption) (by assumption) _ hp2).mono ?_; rintro e w2 ⟨rfl, hb2⟩)
          go_ret2
          exact ⟨drawR_of (by rw [hfin.out, draw_fin2]), hbz.trans (hb2.mono hbz.size)⟩

theorem draw_any (row : ByteArray) (col : Int) (tt : ByteArray) (toCol : Int) (w : World) (hp : Pow w) (hs : row.size ≤ maxLen) (ht : tt.size ≤ maxLen) :
    Calls Tryz.prog 21 #[.string row, .int .i64 col, .string tt, .int .i64 toCol] w fun e w' => e = .returned (drawR row col tt toCol) ∧ Below w.heap.size w w' := by
  cases hw : (wrongB row.data.toList || wrongB tt.data.toList)
  · by_cases hl : 200 < row.size ∨ 200 < tt.size
    · exact draw_large row col tt toCol w hs ht hw hl
    · by_cases hc : 0 ≤ col ∧ col ≤ 200 ∧ 0 ≤ toCol ∧ toCol ≤ 200
      · by_cases he : row.data.toList = tt.data.toList
        · exact draw_same row col tt toCol w hp hs ht hw (by omega) (by omega) hc he
        · exact draw_other row col tt toCol w hp hs ht hw (by omega) (by omega) hc he
      · exact draw_range row col tt toCol w hs ht hw (by omega) (by omega) hc
  · exact draw_wrong row col tt toCol w hs ht hw

end Go.Proofs.YtokmiommhfbkeaaGreatDoor
