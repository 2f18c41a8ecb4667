/- The reference's Draw: its helpers visible, itoa and move, each proved once. -/
import Derived.Test.YtokmiommhfbkeaaDoorDrawB
import Derived.Deep.RegionHeld3
namespace Go.Proofs.YtokmiommhfbkeaaDoor
open Go.RowKit

set_option maxHeartbeats 400000 in
theorem visible_any (s : ByteArray) (w : World) (hs : s.size ≤ maxLen) :
    Calls Tryd.prog 29 #[.string s] w fun e w' => e = .returned (.bool (rowB s.data.toList)) ∧ w = w' := by
  unfold maxLen at hs
  go_enter Tryd.func29, Tryd.ntmps29
  go_wp2
  go_loop [6] (fun i => ∃ k : Nat, k ≤ s.size ∧ i = .int .i64 k ∧ Hid (rowB (s.data.toList.take k) = true)) (fun i => s.size - (intOf i).toNat)
  case atStart => exact ⟨0, Nat.zero_le _, rfl, by simp [Hid, rowB]⟩
  case round =>
    obtain ⟨k, hk, rfl, HR⟩ := hrel
    by_cases hlt : k < s.size
    · by_cases h1 : (s[k].toNat : Int) < 32
      · have HN := Lib.hid (rowB_no s k hlt (by simp [okB, withinB]; omega))
        go_wp2
        go_ret
        exact ⟨ret_bool HN.out.symm, rfl⟩
      · by_cases h2 : 126 < (s[k].toNat : Int)
        · have HN := Lib.hid (rowB_no s k hlt (by simp [okB, withinB]; omega))
          go_wp2
          go_ret
          exact ⟨ret_bool HN.out.symm, rfl⟩
        · have HN := Lib.hid (rowB_step s k hlt HR.out (by simp [okB, withinB]; omega))
          go_wp2
          go_round
          case rel => exact ⟨k + 1, by omega, by go_num, HN⟩
          case measure => simp [intOf]; omega
    · go_wp2
      go_ret
      exact ⟨ret_bool (rowB_all s k hlt HR.out).symm, rfl⟩

set_option maxHeartbeats 400000 in
theorem ritoa_any (n : Int) (h0 : -1000000 ≤ n) (h1 : n ≤ 1000000) (w : World) (hp : Pow w) :
    Calls Tryd.prog 32 #[.int .i64 n] w fun e w' => e = .returned (.string ⟨(Lib.itoa n).toArray⟩) ∧ Below w.heap.size w w' := by
  go_enter Tryd.func32, Tryd.ntmps32
  go_wp2_with (go_at_call 61; refine (itoa_any _ h0 h1 _ hp).mono ?_; rintro e w' ⟨rfl, hb⟩)
  go_ret
  exact ⟨rfl, hb⟩

/-- what the closure does: the box of the column and the box of the text hold other values, and no other old block has turned -/
def Moved (B b1 b2 : Nat) (t1 t2 : TypeId) (n : Int) (out : ByteArray) (w w' : World) : Prop :=
  Below B w w' ∧ w'.heap[b1]? = some (.cells #[.int .i64 n] t1 (0, 0)) ∧ w'.heap[b2]? = some (.cells #[.string out] t2 (0, 0))

theorem app_nil (s : ByteArray) : s ++ ⟨([] : List UInt8).toArray⟩ = s := by apply ByteArray.ext; apply Array.ext'; simp
theorem after_two {w w1 : World} {b1 b2 : Nat} {t1 t2 : TypeId} {v u : Value} (hb : Below w.heap.size w w1) (k1 : w.heap[b1]? = some (.cells #[v] t1 (0, 0))) (k2 : w.heap[b2]? = some (.cells #[u] t2 (0, 0))) :
    w1.cell? ⟨b1, 0, none⟩ = some v ∧ w1.cell? ⟨b2, 0, none⟩ = some u ∧ w1.frozen? ⟨b1, 0, none⟩ = false ∧ w1.frozen? ⟨b2, 0, none⟩ = false :=
  have l1 := lt_of_block k1
  have l2 := lt_of_block k2
  have k1' := (hb.block b1 l1).trans k1
  have k2' := (hb.block b2 l2).trans k2
  ⟨cell_of_one k1', cell_of_one k2', free_of_one k1', free_of_one k2'⟩
theorem moved_end1 {B b1 b2 : Nat} {t1 t2 : TypeId} {n : Int} {v : Value} {out : ByteArray} {w w1 : World} (hb : Below B w w1) (hB1 : B ≤ b1) (hne : b1 ≠ b2)
    (k1 : w1.heap[b1]? = some (.cells #[v] t1 (0, 0))) (k2 : w1.heap[b2]? = some (.cells #[.string out] t2 (0, 0))) : Moved B b1 b2 t1 t2 n out w (w1.setCell ⟨b1, 0, none⟩ (.int .i64 n)) :=
  ⟨hb.setCell hB1 _, one_setCell k1, (Below.heap_setCell _ _ _ _ (fun e => hne e.symm)).trans k2⟩
theorem moved_end2 {B b1 b2 : Nat} {t1 t2 : TypeId} {n : Int} {v u : Value} {out : ByteArray} {w w1 : World} (hb : Below B w w1) (hB1 : B ≤ b1) (hB2 : B ≤ b2) (hne : b1 ≠ b2)
    (k1 : w1.heap[b1]? = some (.cells #[v] t1 (0, 0))) (k2 : w1.heap[b2]? = some (.cells #[u] t2 (0, 0))) : Moved B b1 b2 t1 t2 n out w ((w1.setCell ⟨b2, 0, none⟩ (.string out)).setCell ⟨b1, 0, none⟩ (.int .i64 n)) :=
  ⟨(hb.setCell hB2 _).setCell hB1 _, one_setCell ((Below.heap_setCell _ _ _ _ (fun e => hne e)).trans k1), (Below.heap_setCell _ _ _ _ (fun e => hne e.symm)).trans (one_setCell k2)⟩

theorem undrew {B : Nat} {w w1 : World} (h : Below B w.drew w1) : Below B w w1 := ⟨h.os, h.tape, h.output, h.size, h.block⟩
theorem moved_end3 {B b1 b2 : Nat} {t1 t2 : TypeId} {n : Int} {v u : Value} {out out2 : ByteArray} {w w1 : World} (hb1 : Below w.heap.size w.drew w1) (hB1 : B ≤ b1) (hB2 : B ≤ b2) (hne : b1 ≠ b2)
    (k1 : w.heap[b1]? = some (.cells #[v] t1 (0, 0))) (k2 : w.heap[b2]? = some (.cells #[u] t2 (0, 0))) (ho : out = out2) :
    Moved B b1 b2 t1 t2 n out w ((w1.setCell ⟨b2, 0, none⟩ (.string out2)).setCell ⟨b1, 0, none⟩ (.int .i64 n)) := by
  subst ho
  have l1 := lt_of_block k1
  exact moved_end2 ((undrew hb1).mono (by omega)) hB1 hB2 hne ((hb1.block b1 l1).trans k1) ((hb1.block b2 (lt_of_block k2)).trans k2)

theorem bs_any (k : Nat) (hk : k ≤ 4) (w : World) : Calls Tryd.prog 31 #[.string ⟨#[8]⟩, .int .i64 k] w fun e w' => e = .returned (.string ⟨(Lib.repeatL [8] k).toArray⟩) ∧ Below w.heap.size w w' :=
  Tryd.strings_Repeat ⟨#[8]⟩ k w (by omega) (by show 1 * k ≤ _; omega)

set_option maxHeartbeats 1600000 in
theorem move_any (B b1 b2 : Nat) (col n : Int) (out : ByteArray) (w : World) (hp : Pow w) (ho : out.size ≤ 10000) (h0 : 0 ≤ col) (h1 : col ≤ 200) (h2 : 0 ≤ n) (h3 : n ≤ 200)
    (hB1 : B ≤ b1) (hB2 : B ≤ b2) (hne : b1 ≠ b2)
    (k1 : w.heap[b1]? = some (.cells #[.int .i64 col] 3 (0, 0))) (k2 : w.heap[b2]? = some (.cells #[.string out] 9 (0, 0))) :
    Calls Tryd.prog 30 #[.int .i64 n, .pointer (some ⟨b1, 0, none⟩), .pointer (some ⟨b2, 0, none⟩)] w fun e w' => e = .returned (.tuple #[]) ∧ Moved B b1 b2 3 9 n (out ++ ⟨(movedL col n).toArray⟩) w w' := by
  have l1 := lt_of_block k1
  have l2 := lt_of_block k2
  have q1 := cell_of_one k1
  have q2 := cell_of_one k2
  have f1 := free_of_one k1
  have f2 := free_of_one k2
  by_cases c1 : n = col
  · have hfin := Lib.hid (show movedL col n = [] by unfold movedL; rw [if_pos c1.symm])
    subst c1
    go_enter Tryd.func30, Tryd.ntmps30
    go_wp2
    go_end0
    exact ⟨rfl, by rw [hfin.out]; exact moved_end1 (Below.refl _ _) hB1 hne k1 (by rw [k2, app_nil])⟩
  have c1b : (n == col) = false := by simpa using c1
  by_cases c2 : n = 0
  · have hfin := Lib.hid (show movedL col n = [13] by unfold movedL; rw [if_neg (fun e => c1 e.symm), if_pos c2])
    subst c2
    go_enter Tryd.func30, Tryd.ntmps30
    go_wp2
    go_end0
    exact ⟨rfl, by rw [hfin.out]; exact moved_end2 (Below.refl _ _) hB1 hB2 hne k1 k2⟩
  have c2b : (n == 0) = false := by simpa using c2
  by_cases c3 : col < n
  · have hfin := Lib.hid (show movedL col n = rightL (n - col) by unfold movedL; rw [if_neg (fun e => c1 e.symm), if_neg c2, if_pos c3])
    have hl := itoa_len (n - col) (by omega) (by omega)
    have c4 : ¬ n < col := by omega
    have hwr : IntKind.i64.wrap (n - col) = n - col := IntWalk.i64_in _ (by omega)
    clear c1 c2
    go_enter Tryd.func30, Tryd.ntmps30
    go_wp2_with fail
    go_region_with (go_at_call 32; refine (ritoa_any _ (by omega) (by omega) _ (by exact hp)).mono ?_; rintro e w1 ⟨rfl, hb1⟩; obtain ⟨z1, z2, z3, z4⟩ := after_two hb1 k1 k2)
    all_goals go_wp2
    all_goals go_end0
    all_goals exact ⟨rfl, moved_end3 hb1 hB1 hB2 hne k1 k2 (by rw [hfin.out]; apply ByteArray.ext; apply Array.ext'; simp [rightL])⟩
  have c3' : n < col := by omega
  by_cases c4 : col - n ≤ 4
  · obtain ⟨k, hk⟩ := Int.eq_ofNat_of_zero_le (show 0 ≤ col - n by omega)
    have hk1 : k ≤ 4 := by omega
    have hfin := Lib.hid (show movedL col n = Lib.repeatL [8] k by unfold movedL; rw [if_neg (fun e => c1 e.symm), if_neg c2, if_neg c3, if_pos c4, hk]; rfl)
    have hwr : IntKind.i64.wrap (col - n) = (k : Int) := by rw [IntWalk.i64_in _ (by omega)]; exact hk
    have hl : (Lib.repeatL [8] k).length ≤ 10 := by rw [Lib.repeatL_length]; simp; omega
    clear c1 c2 hk
    go_enter Tryd.func30, Tryd.ntmps30
    go_wp2_with fail
    go_region_with (go_at_call 31; refine (bs_any k hk1 _).mono ?_; rintro e w1 ⟨rfl, hb1⟩; obtain ⟨z1, z2, z3, z4⟩ := after_two hb1 k1 k2)
    all_goals go_wp2
    all_goals go_end0
    all_goals exact ⟨rfl, moved_end3 hb1 hB1 hB2 hne k1 k2 (by rw [hfin.out])⟩
  · have hfin := Lib.hid (show movedL col n = 13 :: rightL n by unfold movedL; rw [if_neg (fun e => c1 e.symm), if_neg c2, if_neg c3, if_neg c4])
    have hl := itoa_len n (by omega) (by omega)
    clear c1 c2
    go_enter Tryd.func30, Tryd.ntmps30
    go_wp2_with fail
    go_region_with (go_at_call 32; refine (ritoa_any _ (by omega) (by omega) _ (by exact hp)).mono ?_; rintro e w1 ⟨rfl, hb1⟩; obtain ⟨z1, z2, z3, z4⟩ := after_two hb1 k1 k2)
    all_goals go_wp2
    all_goals go_end0
    all_goals exact ⟨rfl, moved_end3 hb1 hB1 hB2 hne k1 k2 (by rw [hfin.out]; apply ByteArray.ext; apply Array.ext'; simp [rightL])⟩

end Go.Proofs.YtokmiommhfbkeaaDoor
