/- Whether an entry of a line becomes the line by bytes that were inserted: the reference's goesOn. -/
import Derived.Test.YtokmiommhfbkeaaGreatDoorEditG
import Derived.Test.YtokmiommhfbkeaaGreatDoorES
namespace Go.Proofs.YtokmiommhfbkeaaGreatDoor
open Go.RowKit

theorem bytes_ext {s t : ByteArray} (h : s.data.toList = t.data.toList) : s = t := ByteArray.ext (Array.ext' h)
theorem ext_split {s t : ByteArray} {k a : Nat} (_hk : k ≤ s.size) (hka : k ≤ a) (hat : a ≤ t.size) :
    (t.extract 0 k = s.extract 0 k ∧ t.extract a t.size = s.extract k s.size) ↔ s = cutT t k a := by
  have hs := size_toList s
  have ht := size_toList t
  have e1 : (t.extract 0 k).data.toList = t.data.toList.take k := by rw [Lib.extract_data]; simp
  have e2 : (s.extract 0 k).data.toList = s.data.toList.take k := by rw [Lib.extract_data]; simp
  have e3 := Lib.extract_to_end t a
  have e4 := Lib.extract_to_end s k
  have e5 : (cutT t k a).data.toList = t.data.toList.take k ++ t.data.toList.drop a := by
    unfold cutT; rw [ByteArray.data_append, Array.toList_append, e1, e3]
  have hl : (t.data.toList.take k).length = k := by rw [List.length_take]; omega
  constructor
  · rintro ⟨h1, h2⟩
    apply bytes_ext
    rw [e5, ← e1, ← e3, h1, h2, e2, e4, List.take_append_drop]
  · intro h
    have hd : s.data.toList = t.data.toList.take k ++ t.data.toList.drop a := by rw [← e5, ← h]
    constructor
    · apply bytes_ext
      rw [e1, e2, hd, List.take_left' hl]
    · apply bytes_ext
      rw [e3, e4, hd, List.drop_left' hl]
theorem bytes_ne {s t : ByteArray} (h : ¬ s = t) : (s.toList == t.toList) = false := by
  rw [beq_eq_false_iff_ne, ByteArray.toList_eq, ByteArray.toList_eq]; intro e; exact h (ByteArray.ext (Array.ext' e))
theorem bytes_eq {s t : ByteArray} (h : s = t) : (s.toList == t.toList) = true := by rw [h]; simp

theorem goesL_snoc {text : ByteArray} {a : Int} {killed : ByteArray} {killing : Bool} {pre : List (ByteArray × Int)} {s : ByteArray} {k : Int} {place : Int} {begun : ByteArray} :
    goesL ⟨text, a, killed, killing, pre ++ [(s, k)], place, begun⟩ = goesB (s, k) text a.toNat := by
  unfold goesL; simp

set_option maxRecDepth 100000 in
set_option maxHeartbeats 1600000 in
theorem rgoesOn_nil (text killed begun : ByteArray) (a : Nat) (killing : Bool) (A : Option Addr) (c : Nat) (place : Int) (w : World) :
    Calls Tryz.prog 42 #[.agg #[.string text, .int .i64 a, .string killed, .bool killing, .slice A 0 c, .int .i64 place, .string begun]] w fun e w' => e = .returned (.bool false) ∧ Below w.heap.size w w' := by
  go_enter Tryz.func42, Tryz.ntmps42
  go_wp2
  go_ret
  exact ⟨rfl, (Below.refl _ w).alloc (Nat.le_refl _) _⟩

set_option maxRecDepth 100000 in
set_option maxHeartbeats 3200000 in
theorem rgoesOn_some (s : ByteArray) (k : Nat) (text killed begun : ByteArray) (a m b off c : Nat) (killing : Bool) (place : Int) (w : World) (hk : k ≤ s.size) (hs : s.size ≤ 1000) (ha : a ≤ text.size) (ht : text.size ≤ 1000) (hm : m ≤ 100)
    (hlt : b < w.heap.size) (h1 : w.cell? ⟨b, off + m * 2, none⟩ = some (.string s)) (h2 : w.cell? ⟨b, off + m * 2 + 1, none⟩ = some (.int .i64 k)) :
    Calls Tryz.prog 42 #[.agg #[.string text, .int .i64 a, .string killed, .bool killing, .slice (some ⟨b, off, none⟩) (m + 1) c, .int .i64 place, .string begun]] w fun e w' => e = .returned (.bool (goesB (s, (k : Int)) text a)) ∧ Below w.heap.size w w' := by
  have hg := goesB_eq (s, (k : Int)) text a
  dsimp only at hg
  have HG := Lib.hid hg
  clear hg
  have e1 : IntKind.i64.wrap ((text.size : Int) - (s.size : Int)) = (text.size : Int) - (s.size : Int) := IntWalk.i64_in _ (by omega)
  have e2 : IntKind.i64.wrap ((k : Int) + ((text.size : Int) - (s.size : Int))) = (k : Int) + ((text.size : Int) - (s.size : Int)) := IntWalk.i64_in _ (by omega)
  have e0 : IntKind.i64.wrap ((m : Int) + 1) = (m : Int) + 1 := IntWalk.i64_in _ (by omega)
  have ez : (((m : Int) + 1) == 0) = false := by rw [beq_eq_false_iff_ne]; omega
  by_cases hsz : s.size < text.size
  · have hd1 : ¬ (text.size : Int) - (s.size : Int) ≤ 0 := by omega
    by_cases hat : (a : Int) = (k : Int) + ((text.size : Int) - (s.size : Int))
    · have hka : k ≤ a := by omega
      have hd2 : ((a : Int) != (k : Int) + ((text.size : Int) - (s.size : Int))) = false := by rw [bne_eq_false_iff_eq]; exact hat
      have hkt : k ≤ text.size := by omega
      have hsplit := ext_split hk hka ha
      have HF := Lib.hid (show goesB (s, (k : Int)) text a = (decide (s = cutT text k a) && !spB (text.extract k a)) by
          rw [HG.out, decide_eq_true hsz, decide_eq_true hat, Int.toNat_natCast]; rfl)
      have hsp := Lib.hid hsplit
      clear hat hsplit
      by_cases q1 : text.extract 0 k = s.extract 0 k
      · have t1 := bytes_eq q1
        by_cases q2 : text.extract a text.size = s.extract k s.size
        · have t2 := bytes_eq q2
          have HC := Lib.hid (show goesB (s, (k : Int)) text a = !spB (text.extract k a) by rw [HF.out, decide_eq_true (hsp.out.1 ⟨q1, q2⟩)]; rfl)
          clear q1 q2
          go_enter Tryz.func42, Tryz.ntmps42
          go_wp2_with fail
          go_quiet ((go_at_call 70; exact Calls.quiet_of_same ((contains_sp _ _).mono fun _ _ hh => ⟨hh.1, hh.2.symm⟩)))
          go_wp2
          go_ret
          exact ⟨ret_bool (by rw [HC.out]), below_drewN (((Below.refl _ w).alloc (Nat.le_refl _) _).alloc (by simp) _) _⟩
        · have t2 := bytes_ne q2
          have HC := Lib.hid (show goesB (s, (k : Int)) text a = false by rw [HF.out, decide_eq_false (fun e => q2 (hsp.out.2 e).2)]; rfl)
          clear q1 q2
          go_enter Tryz.func42, Tryz.ntmps42
          go_wp2_with fail
          go_quiet (fail)
          go_wp2
          go_ret
          exact ⟨ret_bool (by rw [HC.out]), below_drewN (((Below.refl _ w).alloc (Nat.le_refl _) _).alloc (by simp) _) _⟩
      · have t1 := bytes_ne q1
        have HC := Lib.hid (show goesB (s, (k : Int)) text a = false by rw [HF.out, decide_eq_false (fun e => q1 (hsp.out.2 e).1)]; rfl)
        clear q1
        go_enter Tryz.func42, Tryz.ntmps42
        go_wp2_with fail
        go_quiet (fail)
        go_wp2
        go_ret
        exact ⟨ret_bool (by rw [HC.out]), below_drewN (((Below.refl _ w).alloc (Nat.le_refl _) _).alloc (by simp) _) _⟩
    · have hd2 : ((a : Int) != (k : Int) + ((text.size : Int) - (s.size : Int))) = true := by rw [bne_iff_ne]; exact hat
      have HC := Lib.hid (show goesB (s, (k : Int)) text a = false by rw [HG.out, decide_eq_false hat]; simp)
      clear hat
      go_enter Tryz.func42, Tryz.ntmps42
      go_wp2
      go_ret
      exact ⟨ret_bool (by rw [HC.out]), (((Below.refl _ w).alloc (Nat.le_refl _) _).alloc (by simp) _)⟩
  · have hd1 : (text.size : Int) - (s.size : Int) ≤ 0 := by omega
    have HC := Lib.hid (show goesB (s, (k : Int)) text a = false by rw [HG.out, decide_eq_false hsz]; simp)
    clear hsz
    go_enter Tryz.func42, Tryz.ntmps42
    go_wp2
    go_ret
    exact ⟨ret_bool (by rw [HC.out]), (((Below.refl _ w).alloc (Nat.le_refl _) _).alloc (by simp) _)⟩

end Go.Proofs.YtokmiommhfbkeaaGreatDoor
