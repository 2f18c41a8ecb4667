/- The reference's Draw returns what drawL tells, for all rows and columns. -/
import Derived.Test.YtokmiommhfbkeaaDoorDrawRef
import Derived.LoopN
namespace Go.Proofs.YtokmiommhfbkeaaDoor
open Go.RowKit

set_option maxHeartbeats 800000 in
theorem rdraw_wrong (row : ByteArray) (col : Int) (tt : ByteArray) (toCol : Int) (w : World) (hs : row.size ≤ maxLen) (ht : tt.size ≤ maxLen) (hw : (wrongB row.data.toList || wrongB tt.data.toList) = true) :
    Calls Tryd.prog 10 #[.string row, .int .i64 col, .string tt, .int .i64 toCol] w fun e w' => e = .returned (drawR row col tt toCol) ∧ Below w.heap.size w w' := by
  have hfin := Lib.hid (show drawL row.data.toList col tt.data.toList toCol = ([], 5) by unfold drawL; rw [if_pos hw])
  have hs' : row.size ≤ 9223372036854775807 := by unfold maxLen at hs; omega
  have ht' : tt.size ≤ 9223372036854775807 := by unfold maxLen at ht; omega
  cases hr : rowB row.data.toList
  · clear hw
    go_enter Tryd.func10, Tryd.ntmps10
    go_wp2_with fail
    refine wp_loop_rounds 3 ?_
    rw [rounds_succ]
    go_wp2_with (go_at_call 29; refine (visible_any _ _ (by assumption)).mono ?_; rintro e w' ⟨rfl, rfl⟩)
    go_ret2
    exact ⟨drawR_of (by rw [hfin.out]), by repeat (first | exact Below.refl _ _ | refine Below.drew ?_ | refine Below.alloc ?_ (by simp; try omega) _)⟩
  · cases hx : Lib.hasSuffix row.data.toList [32]
    · have hwt : wrongB tt.data.toList = true := by simpa [wrongB, hr, hx] using hw
      clear hw
      cases hr2 : rowB tt.data.toList
      · clear hwt
        go_enter Tryd.func10, Tryd.ntmps10
        go_wp2_with fail
        refine wp_loop_rounds 3 ?_
        rw [rounds_succ]
        go_wp2_with (first | (go_at_call 29; refine (visible_any _ _ (by assumption)).mono ?_; rintro e w' ⟨rfl, rfl⟩) | (go_at_call 26; refine (Tryd.strings_HasSuffix _ _ _ (by assumption)).mono ?_; rintro e w' ⟨rfl, rfl⟩))
        rw [rounds_succ]
        go_wp2_with (first | (go_at_call 29; refine (visible_any _ _ (by assumption)).mono ?_; rintro e w' ⟨rfl, rfl⟩) | (go_at_call 26; refine (Tryd.strings_HasSuffix _ _ _ (by assumption)).mono ?_; rintro e w' ⟨rfl, rfl⟩))
        go_ret2
        exact ⟨drawR_of (by rw [hfin.out]), by repeat (first | exact Below.refl _ _ | refine Below.drew ?_ | refine Below.alloc ?_ (by simp; try omega) _)⟩
      · have hx2 : Lib.hasSuffix tt.data.toList [32] = true := by simpa [wrongB, hr2] using hwt
        clear hwt
        go_enter Tryd.func10, Tryd.ntmps10
        go_wp2_with fail
        refine wp_loop_rounds 3 ?_
        rw [rounds_succ]
        go_wp2_with (first | (go_at_call 29; refine (visible_any _ _ (by assumption)).mono ?_; rintro e w' ⟨rfl, rfl⟩) | (go_at_call 26; refine (Tryd.strings_HasSuffix _ _ _ (by assumption)).mono ?_; rintro e w' ⟨rfl, rfl⟩))
        rw [rounds_succ]
        go_wp2_with (first | (go_at_call 29; refine (visible_any _ _ (by assumption)).mono ?_; rintro e w' ⟨rfl, rfl⟩) | (go_at_call 26; refine (Tryd.strings_HasSuffix _ _ _ (by assumption)).mono ?_; rintro e w' ⟨rfl, rfl⟩))
        go_ret2
        exact ⟨drawR_of (by rw [hfin.out]), by repeat (first | exact Below.refl _ _ | refine Below.drew ?_ | refine Below.alloc ?_ (by simp; try omega) _)⟩
    · clear hw
      go_enter Tryd.func10, Tryd.ntmps10
      go_wp2_with fail
      refine wp_loop_rounds 3 ?_
      rw [rounds_succ]
      go_wp2_with (first | (go_at_call 29; refine (visible_any _ _ (by assumption)).mono ?_; rintro e w' ⟨rfl, rfl⟩) | (go_at_call 26; refine (Tryd.strings_HasSuffix _ _ _ (by assumption)).mono ?_; rintro e w' ⟨rfl, rfl⟩))
      go_ret2
      exact ⟨drawR_of (by rw [hfin.out]), by repeat (first | exact Below.refl _ _ | refine Below.drew ?_ | refine Below.alloc ?_ (by simp; try omega) _)⟩

theorem moved_set {B b1 b2 : Nat} {t1 t2 : TypeId} {n : Int} {out out' : ByteArray} {w w1 : World} (h : Moved B b1 b2 t1 t2 n out w w1) (hB2 : B ≤ b2) (hne : b1 ≠ b2) : Moved B b1 b2 t1 t2 n out' w (w1.setCell ⟨b2, 0, none⟩ (.string out')) :=
  ⟨h.1.setCell hB2 _, (Below.heap_setCell _ _ _ _ (fun e => hne e)).trans h.2.1, one_setCell h.2.2⟩
theorem three_heap (w : World) (o1 o2 o3 : Obj) : (((w.alloc o1).alloc o2).alloc o3).heap[w.heap.size]? = some o1 ∧ (((w.alloc o1).alloc o2).alloc o3).heap[w.heap.size + 2]? = some o3 := by
  constructor
  · rw [Below.heap_alloc _ _ _ (by simp; omega), Below.heap_alloc _ _ _ (by simp)]; exact heap_alloc_new _ _
  · have h := heap_alloc_new ((w.alloc o1).alloc o2) o3
    simpa using h
theorem three_below (w : World) (o1 o2 o3 : Obj) : Below w.heap.size w (((w.alloc o1).alloc o2).alloc o3) :=
  (((Below.refl _ w).alloc (Nat.le_refl _) o1).alloc (by simp) o2).alloc (by simp; omega) o3
theorem not_wrong {a b : List UInt8} (hw : (wrongB a || wrongB b) = false) : rowB a = true ∧ Lib.hasSuffix a [32] = false ∧ rowB b = true ∧ Lib.hasSuffix b [32] = false := by
  simpa [wrongB, and_assoc] using hw

set_option maxHeartbeats 1600000 in
theorem rdraw_large (row : ByteArray) (col : Int) (tt : ByteArray) (toCol : Int) (w : World) (hs : row.size ≤ maxLen) (ht : tt.size ≤ maxLen) (hw : (wrongB row.data.toList || wrongB tt.data.toList) = false) (hl : 200 < row.size ∨ 200 < tt.size) :
    Calls Tryd.prog 10 #[.string row, .int .i64 col, .string tt, .int .i64 toCol] w fun e w' => e = .returned (drawR row col tt toCol) ∧ Below w.heap.size w w' := by
  have hfin := Lib.hid (show drawL row.data.toList col tt.data.toList toCol = ([], 2) by unfold drawL; rw [if_neg (by simp [hw]), if_pos (by rw [size_toList, size_toList]; exact hl)])
  have hs' : row.size ≤ 9223372036854775807 := by unfold maxLen at hs; omega
  have ht' : tt.size ≤ 9223372036854775807 := by unfold maxLen at ht; omega
  obtain ⟨r1, r2, r3, r4⟩ := not_wrong hw
  clear hw
  go_enter Tryd.func10, Tryd.ntmps10
  go_wp2_with fail
  refine wp_loop_rounds 3 ?_
  rw [rounds_succ]
  go_wp2_with (first | (go_at_call 29; refine (visible_any _ _ (by assumption)).mono ?_; rintro e w' ⟨rfl, rfl⟩) | (go_at_call 26; refine (Tryd.strings_HasSuffix _ _ _ (by assumption)).mono ?_; rintro e w' ⟨rfl, rfl⟩))
  rw [rounds_succ]
  go_wp2_with (first | (go_at_call 29; refine (visible_any _ _ (by assumption)).mono ?_; rintro e w' ⟨rfl, rfl⟩) | (go_at_call 26; refine (Tryd.strings_HasSuffix _ _ _ (by assumption)).mono ?_; rintro e w' ⟨rfl, rfl⟩))
  rw [rounds_succ]
  go_wp2_with (first | (go_at_call 29; refine (visible_any _ _ (by assumption)).mono ?_; rintro e w' ⟨rfl, rfl⟩) | (go_at_call 26; refine (Tryd.strings_HasSuffix _ _ _ (by assumption)).mono ?_; rintro e w' ⟨rfl, rfl⟩))
  go_ret2
  exact ⟨drawR_of (by rw [hfin.out]), by repeat (first | exact Below.refl _ _ | refine Below.drew ?_ | refine Below.alloc ?_ (by simp; try omega) _)⟩

set_option maxHeartbeats 1600000 in
theorem rdraw_range (row : ByteArray) (col : Int) (tt : ByteArray) (toCol : Int) (w : World) (hs : row.size ≤ maxLen) (ht : tt.size ≤ maxLen) (hw : (wrongB row.data.toList || wrongB tt.data.toList) = false) (hl : row.size ≤ 200) (hl2 : tt.size ≤ 200) (hc : ¬ (0 ≤ col ∧ col ≤ 200 ∧ 0 ≤ toCol ∧ toCol ≤ 200)) :
    Calls Tryd.prog 10 #[.string row, .int .i64 col, .string tt, .int .i64 toCol] w fun e w' => e = .returned (drawR row col tt toCol) ∧ Below w.heap.size w w' := by
  have hfin := Lib.hid (show drawL row.data.toList col tt.data.toList toCol = ([], 3) by unfold drawL; rw [if_neg (by simp [hw]), if_neg (by rw [size_toList, size_toList]; omega), if_pos hc])
  have hs' : row.size ≤ 9223372036854775807 := by unfold maxLen at hs; omega
  have ht' : tt.size ≤ 9223372036854775807 := by unfold maxLen at ht; omega
  obtain ⟨r1, r2, r3, r4⟩ := not_wrong hw
  clear hw
  by_cases hm : min col toCol < 0
  · clear hc
    go_enter Tryd.func10, Tryd.ntmps10
    go_wp2_with fail
    refine wp_loop_rounds 3 ?_
    rw [rounds_succ]
    go_wp2_with (first | (go_at_call 29; refine (visible_any _ _ (by assumption)).mono ?_; rintro e w' ⟨rfl, rfl⟩) | (go_at_call 26; refine (Tryd.strings_HasSuffix _ _ _ (by assumption)).mono ?_; rintro e w' ⟨rfl, rfl⟩))
    rw [rounds_succ]
    go_wp2_with (first | (go_at_call 29; refine (visible_any _ _ (by assumption)).mono ?_; rintro e w' ⟨rfl, rfl⟩) | (go_at_call 26; refine (Tryd.strings_HasSuffix _ _ _ (by assumption)).mono ?_; rintro e w' ⟨rfl, rfl⟩))
    rw [rounds_succ]
    go_wp2_with (first | (go_at_call 29; refine (visible_any _ _ (by assumption)).mono ?_; rintro e w' ⟨rfl, rfl⟩) | (go_at_call 26; refine (Tryd.strings_HasSuffix _ _ _ (by assumption)).mono ?_; rintro e w' ⟨rfl, rfl⟩))
    go_ret2
    exact ⟨drawR_of (by rw [hfin.out]), by repeat (first | exact Below.refl _ _ | refine Below.drew ?_ | refine Below.alloc ?_ (by simp; try omega) _)⟩
  · have hm2 : 200 < max col toCol := by omega
    clear hc
    go_enter Tryd.func10, Tryd.ntmps10
    go_wp2_with fail
    refine wp_loop_rounds 3 ?_
    rw [rounds_succ]
    go_wp2_with (first | (go_at_call 29; refine (visible_any _ _ (by assumption)).mono ?_; rintro e w' ⟨rfl, rfl⟩) | (go_at_call 26; refine (Tryd.strings_HasSuffix _ _ _ (by assumption)).mono ?_; rintro e w' ⟨rfl, rfl⟩))
    rw [rounds_succ]
    go_wp2_with (first | (go_at_call 29; refine (visible_any _ _ (by assumption)).mono ?_; rintro e w' ⟨rfl, rfl⟩) | (go_at_call 26; refine (Tryd.strings_HasSuffix _ _ _ (by assumption)).mono ?_; rintro e w' ⟨rfl, rfl⟩))
    rw [rounds_succ]
    go_wp2_with (first | (go_at_call 29; refine (visible_any _ _ (by assumption)).mono ?_; rintro e w' ⟨rfl, rfl⟩) | (go_at_call 26; refine (Tryd.strings_HasSuffix _ _ _ (by assumption)).mono ?_; rintro e w' ⟨rfl, rfl⟩))
    go_ret2
    exact ⟨drawR_of (by rw [hfin.out]), by repeat (first | exact Below.refl _ _ | refine Below.drew ?_ | refine Below.alloc ?_ (by simp; try omega) _)⟩

set_option maxHeartbeats 3200000 in
theorem rdraw_same (row : ByteArray) (col : Int) (tt : ByteArray) (toCol : Int) (w : World) (hp : Pow w) (hs : row.size ≤ maxLen) (ht : tt.size ≤ maxLen) (hw : (wrongB row.data.toList || wrongB tt.data.toList) = false) (hl : row.size ≤ 200) (hl2 : tt.size ≤ 200) (hc : 0 ≤ col ∧ col ≤ 200 ∧ 0 ≤ toCol ∧ toCol ≤ 200) (he : row.data.toList = tt.data.toList) :
    Calls Tryd.prog 10 #[.string row, .int .i64 col, .string tt, .int .i64 toCol] w fun e w' => e = .returned (drawR row col tt toCol) ∧ Below w.heap.size w w' := by
  have hfin := Lib.hid (show drawL row.data.toList col tt.data.toList toCol = (movedL col toCol, 0) by unfold drawL; rw [if_neg (by simp [hw]), if_neg (by rw [size_toList, size_toList]; omega), if_neg (by simpa using hc), if_pos he])
  have hs' : row.size ≤ 9223372036854775807 := by unfold maxLen at hs; omega
  obtain rfl : row = tt := ByteArray.ext (Array.ext' he)
  obtain ⟨r1, r2, r3, r4⟩ := not_wrong hw
  obtain ⟨hc1, hc2, hc3, hc4⟩ := hc
  have hm : ¬ min col toCol < 0 := by omega
  have hm2 : ¬ 200 < max col toCol := by omega
  have hmf : ∀ (fn : Fn) (first cap : Array Value) (w : World), (Instr.makeFunc fn first cap).run Tryd.prog w = .ok (.func fn first cap) w := fun _ _ _ _ => rfl
  clear hw he
  go_enter Tryd.func10, Tryd.ntmps10
  go_wp2_with fail
  refine wp_loop_rounds 3 ?_
  rw [rounds_succ]
  go_wp2_with (first | (go_at_call 29; refine (visible_any _ _ (by assumption)).mono ?_; rintro e w' ⟨rfl, rfl⟩) | (go_at_call 26; refine (Tryd.strings_HasSuffix _ _ _ (by assumption)).mono ?_; rintro e w' ⟨rfl, rfl⟩))
  rw [rounds_succ]
  go_wp2_with (first | (go_at_call 29; refine (visible_any _ _ (by assumption)).mono ?_; rintro e w' ⟨rfl, rfl⟩) | (go_at_call 26; refine (Tryd.strings_HasSuffix _ _ _ (by assumption)).mono ?_; rintro e w' ⟨rfl, rfl⟩))
  rw [rounds_succ]
  go_wp2_with (first | (go_at_call 29; refine (visible_any _ _ (by assumption)).mono ?_; rintro e w' ⟨rfl, rfl⟩) | (go_at_call 26; refine (Tryd.strings_HasSuffix _ _ _ (by assumption)).mono ?_; rintro e w' ⟨rfl, rfl⟩))
  obtain ⟨k1, k2⟩ := three_heap w (.cells #[.int .i64 col] 3) (.cells #[.string row, .string row] 9) (.cells #[.string ⟨#[]⟩] 9)
  refine (move_any w.heap.size w.heap.size (w.heap.size + 2) col toCol ⟨#[]⟩ _ (hp.keep (three_below _ _ _ _)) (by show 0 ≤ 10000; omega) hc1 hc2 hc3 hc4 (Nat.le_refl _) (by omega) (by omega) k1 k2).mono ?_
  rintro e w1 ⟨rfl, hb, m1, m2⟩
  have z2 := cell_of_one m2
  go_wp2
  go_ret2
  exact ⟨drawR_of (by rw [hfin.out]; simp), (three_below _ _ _ _).trans hb⟩

set_option maxHeartbeats 6400000 in
theorem rdraw_other (row : ByteArray) (col : Int) (tt : ByteArray) (toCol : Int) (w : World) (hp : Pow w) (hs : row.size ≤ maxLen) (ht : tt.size ≤ maxLen) (hw : (wrongB row.data.toList || wrongB tt.data.toList) = false) (hl : row.size ≤ 200) (hl2 : tt.size ≤ 200) (hc : 0 ≤ col ∧ col ≤ 200 ∧ 0 ≤ toCol ∧ toCol ≤ 200) (he : ¬ row.data.toList = tt.data.toList) :
    Calls Tryd.prog 10 #[.string row, .int .i64 col, .string tt, .int .i64 toCol] w fun e w' => e = .returned (drawR row col tt toCol) ∧ Below w.heap.size w w' := by
  have hfin := Lib.hid (show drawL row.data.toList col tt.data.toList toCol = (movedL col (comm row.data.toList tt.data.toList) ++ tt.data.toList.drop (comm row.data.toList tt.data.toList) ++ (if tt.data.toList.length < row.data.toList.length then [27, 91, 75] else []) ++ movedL tt.data.toList.length toCol, 0) by unfold drawL; rw [if_neg (by simp [hw]), if_neg (by rw [size_toList, size_toList]; omega), if_neg (by simpa using hc), if_neg he])
  have hs' : row.size ≤ 9223372036854775807 := by unfold maxLen at hs; omega
  have ht' : tt.size ≤ 9223372036854775807 := by unfold maxLen at ht; omega
  have hne : (row.toList == tt.toList) = false := by
    rw [ByteArray.toList_eq, ByteArray.toList_eq, beq_eq_false_iff_ne]; exact he
  obtain ⟨r1, r2, r3, r4⟩ := not_wrong hw
  obtain ⟨hc1, hc2, hc3, hc4⟩ := hc
  have hm : ¬ min col toCol < 0 := by omega
  have hm2 : ¬ 200 < max col toCol := by omega
  have hmf : ∀ (fn : Fn) (first cap : Array Value) (w : World), (Instr.makeFunc fn first cap).run Tryd.prog w = .ok (.func fn first cap) w := fun _ _ _ _ => rfl
  clear hw he
  go_enter Tryd.func10, Tryd.ntmps10
  go_wp2_with fail
  refine wp_loop_rounds 3 ?_
  rw [rounds_succ]
  go_wp2_with (first | (go_at_call 29; refine (visible_any _ _ (by assumption)).mono ?_; rintro e w' ⟨rfl, rfl⟩) | (go_at_call 26; refine (Tryd.strings_HasSuffix _ _ _ (by assumption)).mono ?_; rintro e w' ⟨rfl, rfl⟩))
  rw [rounds_succ]
  go_wp2_with (first | (go_at_call 29; refine (visible_any _ _ (by assumption)).mono ?_; rintro e w' ⟨rfl, rfl⟩) | (go_at_call 26; refine (Tryd.strings_HasSuffix _ _ _ (by assumption)).mono ?_; rintro e w' ⟨rfl, rfl⟩))
  rw [rounds_succ]
  go_wp2_with (first | (go_at_call 29; refine (visible_any _ _ (by assumption)).mono ?_; rintro e w' ⟨rfl, rfl⟩) | (go_at_call 26; refine (Tryd.strings_HasSuffix _ _ _ (by assumption)).mono ?_; rintro e w' ⟨rfl, rfl⟩))
  obtain ⟨k1, k2⟩ := three_heap w (.cells #[.int .i64 col] 3) (.cells #[.string row, .string tt] 9) (.cells #[.string ⟨#[]⟩] 9)
  have hB3 := three_below w (.cells #[.int .i64 col] 3) (.cells #[.string row, .string tt] 9) (.cells #[.string ⟨#[]⟩] 9)
  generalize ((w.alloc (.cells #[.int .i64 col] 3)).alloc (.cells #[.string row, .string tt] 9)).alloc (.cells #[.string ⟨#[]⟩] 9) = W3 at *
  go_loopw [14] (fun b wr => ∃ k : Nat, k ≤ comm row.data.toList tt.data.toList ∧ b = .int .i64 k ∧ Below W3.heap.size W3 wr) (fun b _ => row.size - (intOf b).toNat)
  case atStart => exact ⟨0, Nat.zero_le _, rfl, Below.refl _ _⟩
  case round =>
    obtain ⟨k, hk, rfl, hbw⟩ := hrel
    have hcl := comm_le row.data.toList tt.data.toList
    rw [size_toList, size_toList] at hcl
    have hgo : (∃ (a1 : k < row.size) (a2 : k < tt.size), row[k] = tt[k]) ∨ (comm row.data.toList tt.data.toList = k ∧ ((∃ (a1 : k < row.size) (a2 : k < tt.size), ((row[k].toNat : Int) == (tt[k].toNat : Int)) = false) ∨ (k < row.size ∧ decide ((k : Int) < tt.size) = false ∧ ¬ k < tt.size) ∨ (decide ((k : Int) < row.size) = false ∧ ¬ k < row.size))) := by
      by_cases a1 : k < row.size
      · by_cases a2 : k < tt.size
        · by_cases a3 : row[k] = tt[k]
          · exact .inl ⟨a1, a2, a3⟩
          · have hk' := comm_differ row.data.toList tt.data.toList k row[k] tt[k] hk (by rw [List.getElem?_eq_getElem (by rw [size_toList]; exact a1)]; rfl) (by rw [List.getElem?_eq_getElem (by rw [size_toList]; exact a2)]; rfl) a3
            exact .inr ⟨hk', .inl ⟨a1, a2, by rw [beq_eq_false_iff_ne]; intro h; exact a3 (UInt8.toNat_inj.1 (by omega))⟩⟩
        · exact .inr ⟨by omega, .inr (.inl ⟨a1, by simp; omega, a2⟩)⟩
      · exact .inr ⟨by omega, .inr (.inr ⟨by simp; omega, a1⟩)⟩
    rcases hgo with ⟨a1, a2, a3⟩ | ⟨hk', hgo⟩
    · have hk' := comm_step row.data.toList tt.data.toList k row[k] hk (by rw [List.getElem?_eq_getElem (by rw [size_toList]; exact a1)]; rfl) (by rw [List.getElem?_eq_getElem (by rw [size_toList]; exact a2), a3]; rfl)
      have hkl : k + 1 ≤ row.size := by omega
      have a4 : ((row[k].toNat : Int) == (tt[k].toNat : Int)) = true := by rw [a3]; simp
      clear a3
      have hmin : decide ((k : Int) < min (row.size : Int) (tt.size : Int)) = true := by rw [decide_eq_true_iff]; omega
      go_wp2_with fail
      go_quiet (fail)
      go_wp2
      go_roundw
      case rel => exact ⟨k + 1, hk', by go_num, (below_drewN hbw _)⟩
      case measure => simp [intOf]; omega
    · rw [hk'] at hfin
      have hkr : k ≤ row.size := by omega
      have hkt : k ≤ tt.size := by omega
      have hml := movedL_len col k (by assumption) (by assumption) (by omega) (by omega)
      have hmt := movedL_len tt.size toCol (by omega) (by omega) (by assumption) (by assumption)
      have hmf : Hid (∀ n, Moved w.heap.size w.heap.size (w.heap.size + 2) 3 9 col ⟨#[]⟩ w (wr.drewN n) ∧ Pow (wr.drewN n)) := fun n =>
        ⟨⟨hB3.trans ((below_drewN hbw n).mono hB3.size), (hbw.block _ (lt_of_block k1)).trans k1, (hbw.block _ (lt_of_block k2)).trans k2⟩, (hp.keep hB3).keep (below_drewN hbw n)⟩
      have hgo' : ((∃ (a1 : k < row.size) (a2 : k < tt.size), ((row[k].toNat : Int) == (tt[k].toNat : Int)) = false ∧ decide ((k : Int) < min (row.size : Int) (tt.size : Int)) = true) ∨ decide ((k : Int) < min (row.size : Int) (tt.size : Int)) = false) := by
        rcases hgo with ⟨a1, a2, a4⟩ | ⟨a1, a2, a3⟩ | ⟨a1, a2⟩
        · exact .inl ⟨a1, a2, a4, by rw [decide_eq_true_iff]; omega⟩
        · exact .inr (by rw [decide_eq_false_iff_not]; omega)
        · exact .inr (by rw [decide_eq_false_iff_not]; omega)
      clear hk' hgo hbw k1 k2
      rcases hgo' with ⟨a1, a2, a4, a5⟩ | a5
      all_goals
        go_wp2_with fail
        go_quiet (fail)
        go_wp2_with fail
        refine (move_any w.heap.size w.heap.size (w.heap.size + 2) col k ⟨#[]⟩ _ (hmf.out _).2 (by show 0 ≤ 10000; omega) hc1 hc2 (by omega) (by omega) (Nat.le_refl _) (by omega) (by omega) (hmf.out _).1.2.1 (hmf.out _).1.2.2).mono ?_
        rintro e w1 ⟨rfl, hb, m1, m2⟩
        have ho1 : Hid ((⟨#[]⟩ ++ ⟨(movedL col k).toArray⟩ : ByteArray).data.toList = movedL col k) := by simp [Hid]
        have hs1 : (⟨#[]⟩ ++ ⟨(movedL col k).toArray⟩ : ByteArray).size ≤ 30 := by rw [← size_toList, ho1.out]; exact hml
        generalize (⟨#[]⟩ ++ ⟨(movedL col k).toArray⟩ : ByteArray) = o1 at *
        have z1 := cell_of_one m1
        have z2 := cell_of_one m2
        have z3 := free_of_one m1
        have z4 := free_of_one m2
        have hex : (tt.extract k tt.size).size ≤ 200 := by rw [ByteArray.size_extract]; omega
        have M := moved_end2 (n := (tt.size : Int)) (out := o1 ++ tt.extract k tt.size) (b1 := w.heap.size) (b2 := w.heap.size + 2) ((hmf.out _).1.1.trans hb) (Nat.le_refl _) (by omega) (by omega) m1 m2
        have hsz : (o1 ++ tt.extract k tt.size).size ≤ 230 := by rw [ByteArray.size_append]; omega
        by_cases hlt : tt.size < row.size
        · rw [if_pos (by rw [size_toList, size_toList]; exact hlt), size_toList] at hfin
          have M2 := moved_set (out' := o1 ++ tt.extract k tt.size ++ ⟨#[27, 91, 75]⟩) M (by omega) (by omega)
          have hsz2 : (o1 ++ tt.extract k tt.size ++ ⟨#[27, 91, 75]⟩ : ByteArray).size ≤ 10000 := by rw [ByteArray.size_append]; show _ + 3 ≤ _; omega
          clear M
          go_wp2_with fail
          go_region
          all_goals
            go_wp2_with fail
            refine (move_any w.heap.size w.heap.size (w.heap.size + 2) tt.size toCol (o1 ++ tt.extract k tt.size ++ ⟨#[27, 91, 75]⟩) _ (by exact hp.keep M2.1.drew) hsz2 (by omega) (by omega) hc3 hc4 (Nat.le_refl _) (by omega) (by omega) (by exact M2.2.1) (by exact M2.2.2)).mono ?_
            rintro e w2 ⟨rfl, hb2, n1, n2⟩
            have z5 := cell_of_one n2
            go_wp2
            go_ret2
            exact ⟨drawR_of (by rw [hfin.out, ← ho1.out]; simp only [ByteArray.data_append, Array.toList_append, extract_list]), M2.1.trans (undrew hb2)⟩
        · rw [if_neg (by rw [size_toList, size_toList]; exact hlt), size_toList] at hfin
          go_wp2_with fail
          go_region
          all_goals
            go_wp2_with fail
            refine (move_any w.heap.size w.heap.size (w.heap.size + 2) tt.size toCol (o1 ++ tt.extract k tt.size) _ (by exact hp.keep M.1.drew) (by omega) (by omega) (by omega) hc3 hc4 (Nat.le_refl _) (by omega) (by omega) (by exact M.2.1) (by exact M.2.2)).mono ?_
            rintro e w2 ⟨rfl, hb2, n1, n2⟩
            have z5 := cell_of_one n2
            go_wp2
            go_ret2
            exact ⟨drawR_of (by rw [hfin.out, ← ho1.out]; simp only [ByteArray.data_append, Array.toList_append, extract_list, List.append_nil]), M.1.trans (undrew hb2)⟩

theorem rdraw_any (row : ByteArray) (col : Int) (tt : ByteArray) (toCol : Int) (w : World) (hp : Pow w) (hs : row.size ≤ maxLen) (ht : tt.size ≤ maxLen) :
    Calls Tryd.prog 10 #[.string row, .int .i64 col, .string tt, .int .i64 toCol] w fun e w' => e = .returned (drawR row col tt toCol) ∧ Below w.heap.size w w' := by
  cases hw : (wrongB row.data.toList || wrongB tt.data.toList)
  · by_cases hl : 200 < row.size ∨ 200 < tt.size
    · exact rdraw_large row col tt toCol w hs ht hw hl
    · by_cases hc : 0 ≤ col ∧ col ≤ 200 ∧ 0 ≤ toCol ∧ toCol ≤ 200
      · by_cases he : row.data.toList = tt.data.toList
        · exact rdraw_same row col tt toCol w hp hs ht hw (by omega) (by omega) hc he
        · exact rdraw_other row col tt toCol w hp hs ht hw (by omega) (by omega) hc he
      · exact rdraw_range row col tt toCol w hs ht hw (by omega) (by omega) hc
  · exact rdraw_wrong row col tt toCol w hs ht hw

end Go.Proofs.YtokmiommhfbkeaaDoor
