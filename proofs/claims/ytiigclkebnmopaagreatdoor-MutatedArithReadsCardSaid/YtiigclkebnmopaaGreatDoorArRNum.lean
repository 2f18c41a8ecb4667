/- Arithmetic expressions: strconv.ParseUint at the bases 8, 10, 16 and 63 bits. (Printed by tools/gpu.py.) -/
import Derived.Test.YtiigclkebnmopaaGreatDoorArRefA
import Derived.Lib.ConvBytes
import Derived.Lib.AtoiAllMem
import Derived.Lib.AtoiErrMem
import Derived.Laws.Strings3
import Derived.Laws.Closers25
import Derived.Laws.Closers25b
import Derived.BigGuard
namespace Go.Proofs.YtiigclkebnmopaaGreatDoor
open Go.RowKit Go.Shelf

/-- what the inner ParseUint gives -/
def PuGives (base : Nat) (L : List UInt8) (w : World) (e : Ending) (w' : World) : Prop :=
  (match (if L = [] then none else numV base L 0) with
  | some n => e = .returned (.tuple #[.int .u64 (n : Int), .nilIface])
  | none => ∃ (u c : Int), (c = 1 ∨ c = 2) ∧ e = .returned (.tuple #[.int .u64 u, .iface 292 (.int .i64 c)])) ∧ Below w.heap.size w w'
theorem PuGives.bad {base : Nat} {L : List UInt8} {w w' : World} {u c : Int} (hL : L ≠ []) (h : numV base L 0 = none) (hc : c = 1 ∨ c = 2) (hb : Below w.heap.size w w') : PuGives base L w (.returned (.tuple #[.int .u64 u, .iface 292 (.int .i64 c)])) w' := by
  unfold PuGives
  rw [if_neg hL, h]
  exact ⟨⟨u, c, hc, rfl⟩, hb⟩
theorem PuGives.good {base : Nat} {L : List UInt8} {w w' : World} {n : Nat} (hL : L ≠ []) (h : numV base L 0 = some n) (hb : Below w.heap.size w w') : PuGives base L w (.returned (.tuple #[.int .u64 (n : Int), .nilIface])) w' := by
  unfold PuGives
  rw [if_neg hL, h]
  exact ⟨rfl, hb⟩
/-- the four kinds of bytes of a numeral -/
def Kinds (c : UInt8) : Prop := (48 ≤ c.toNat ∧ c.toNat ≤ 57 ∧ dv c = c.toNat - 48) ∨ (97 ≤ c.toNat ∧ c.toNat ≤ 122 ∧ bits .or .u8 (c.toNat : Int) 32 = (c.toNat : Int) ∧ (dv c = c.toNat - 87 ∨ 103 ≤ c.toNat ∧ dv c = 99)) ∨
    (65 ≤ c.toNat ∧ c.toNat ≤ 90 ∧ bits .or .u8 (c.toNat : Int) 32 = (c.toNat : Int) + 32 ∧ (dv c = c.toNat - 55 ∨ 71 ≤ c.toNat ∧ dv c = 99)) ∨ (c.toNat = 95 ∧ dv c = 99)
instance (c : UInt8) : Decidable (Kinds c) := by unfold Kinds; infer_instance
theorem kinds_all : (List.range 256).all (fun n => decide (isW (UInt8.ofNat n) = true → Kinds (UInt8.ofNat n))) = true := by decide +kernel
theorem isW_kinds (c : UInt8) (hw : isW c = true) : Kinds c := by
  have h := List.all_eq_true.1 kinds_all c.toNat (List.mem_range.2 c.toNat_lt)
  rw [UInt8.ofNat_toNat] at h
  exact of_decide_eq_true h hw
theorem rlower_any (c : Int) (w : World) : Calls Tryz.prog 242 #[.int .u8 c] w fun e w' => e = .returned (.int .u8 (bits .or .u8 c 32)) ∧ w = w' := by
  go_enter Tryz.func242, Tryz.ntmps242
  go_wp2
  go_ret
  exact ⟨rfl, rfl⟩

set_option maxHeartbeats 32000000 in
set_option maxRecDepth 100000 in
theorem pu_8 (L : List UInt8) (hW : ∀ c ∈ L, isW c = true) (hmax : L.length ≤ 16384) (w : World) :
    Calls Tryz.prog 240 #[.string (toB L), .int .i64 8, .int .i64 63] w (PuGives 8 L w) := by
  by_cases hne : L = []
  · subst hne
    have hem0 : (toB []).toList.isEmpty = true := by simp [toB, ByteArray.toList_eq]
    go_enter Tryz.func240, Tryz.ntmps240
    go_wp2
    go_ret2
    exact ⟨⟨0, 2, .inr rfl, rfl⟩, Below.refl _ _⟩
  have hsz := toB_size L
  have hemp : (toB L).toList.isEmpty = false := by
    rw [show (toB L).toList = L by simp [toB, ByteArray.toList_eq]]
    cases L with
    | nil => exact absurd rfl hne
    | cons _ _ => rfl
  have hcv := Lib.run_convert_string_bytes (P := Tryz.prog) w 9 82 5 (toB L) (u := .string) rfl rfl rfl
  have hB : ∀ j, j < L.length → (Lib.bytesWorld w 5 (toB L)).cell? ⟨w.heap.size, j, none⟩ = some (.int .u8 (L.getD j 0).toNat) := fun j hj => Lib.bytesWorld_cell w 5 (toB L) j (by omega)
  have HBe := Lib.hid (show Below w.heap.size w (Lib.bytesWorld w 5 (toB L)) from Lib.bytesWorld_below _ _ _)
  obtain ⟨W1, hW1⟩ : ∃ W1, W1 = Lib.bytesWorld w 5 (toB L) := ⟨_, rfl⟩
  rw [← hW1] at hcv hB HBe
  clear hW1
  obtain ⟨Q, hQ⟩ : ∃ Q, PuGives 8 L w = Q := ⟨_, rfl⟩
  rw [hQ]
  have HQ := Lib.hid hQ
  have HNe := Lib.hid hne
  have HW := Lib.hid hW
  clear hQ hne hW
  have hmv : IntKind.u64.wrap (IntKind.u64.wrap 9223372036854775808 - 1) = 9223372036854775807 := by
    rw [IntKind.wrap_u64, IntKind.wrap_u64]
    decide
  go_enter Tryz.func240, Tryz.ntmps240
  go_wp2
  go_loop [12, 13, 101] (fun vu vn vi => ∃ (k acc : Nat) (a : Int), vu = .bool false ∧ vn = .int .u64 a ∧ vi = .int .i64 k ∧ k ≤ L.length ∧ Hid (a = (acc : Int) ∧ acc ≤ maxN ∧ numV 8 L 0 = numV 8 (L.drop k) acc))
    (fun _ _ vi => L.length - (intOf vi).toNat)
  case atStart => exact ⟨0, 0, 0, rfl, rfl, rfl, by omega, rfl, by simp, rfl⟩
  case round =>
    obtain ⟨k, acc, a, rfl, rfl, rfl, hk, hh⟩ := hrel
    obtain ⟨ha, hacc, hdec⟩ := hh.out
    unfold maxN at hacc
    clear hh
    have a0 : 0 ≤ a := by omega
    have a1 : a ≤ 9223372036854775807 := by omega
    by_cases hkn : k < L.length
    · have hc := hB k hkn
      have hdrop : L.drop k = L[k]'hkn :: L.drop (k + 1) := List.drop_eq_getElem_cons hkn
      have hget : L.getD k 0 = L[k]'hkn := by simp [List.getD, List.getElem?_eq_getElem hkn]
      have hkd := isW_kinds _ (HW.out _ (List.getElem_mem hkn))
      rw [hdrop] at hdec
      rw [hget] at hc
      generalize L[k]'hkn = c at hc hdec hkd
      have hc256 : c.toNat < 256 := c.toNat_lt
      clear hB hdrop hget
      obtain ⟨d, hd⟩ : ∃ d, dv c = d := ⟨_, rfl⟩
      rw [show numV 8 (c :: L.drop (k + 1)) acc = if d < 8 ∧ 8 * acc + d ≤ maxN then numV 8 (L.drop (k + 1)) (8 * acc + d) else none from by rw [← hd]; rfl] at hdec
      unfold Kinds at hkd
      rw [hd] at hkd
      have hlow := rlower_any
      rcases hkd with ⟨hc1, hc2, hdv⟩ | ⟨hc1, hc2, hbt, hdv⟩ | ⟨hc1, hc2, hbt, hdv⟩ | ⟨hc1, hdv⟩
      · by_cases hdb : 8 ≤ d
        · have hdI : (8 : Int) ≤ ((c.toNat : Int) - 48) := by omega
          have HN := Lib.hid (show numV 8 L 0 = none by rw [hdec, if_neg (by unfold maxN; omega)])
          clear hdec hdv hd HW ha hacc
          go_wp2
          all_goals (rw [← HQ.out]; exact PuGives.bad HNe.out HN.out (by simp) HBe.out)
        · have hdI : ((c.toNat : Int) - 48) < (8 : Int) := by omega
          by_cases hcut : 2305843009213693952 ≤ acc
          · have icut : 2305843009213693952 ≤ a := by omega
            have HN := Lib.hid (show numV 8 L 0 = none by rw [hdec, if_neg (by unfold maxN; omega)])
            clear hdec hdv hd HW ha hacc
            go_wp2
            all_goals (rw [← HQ.out]; exact PuGives.bad HNe.out HN.out (by simp) HBe.out)
          · by_cases hov : 18446744073709551616 ≤ 8 * acc + d
            · have icut : a < 2305843009213693952 := by omega
              have iov : 18446744073709551616 ≤ a * 8 + ((c.toNat : Int) - 48) := by omega
              have hwr : IntKind.u64.wrap (a * 8 + ((c.toNat : Int) - 48)) = a * 8 + ((c.toNat : Int) - 48) - 18446744073709551616 := by
                rw [IntKind.wrap_u64]
                omega
              have HN := Lib.hid (show numV 8 L 0 = none by rw [hdec, if_neg (by unfold maxN; omega)])
              clear hdec hdv hd HW ha hacc
              go_wp2
              all_goals (rw [← HQ.out]; exact PuGives.bad HNe.out HN.out (by simp) HBe.out)
            · by_cases hmx : 9223372036854775808 ≤ 8 * acc + d
              · have icut : a < 2305843009213693952 := by omega
                have iov : a * 8 + ((c.toNat : Int) - 48) < 18446744073709551616 := by omega
                have imx : 9223372036854775807 < a * 8 + ((c.toNat : Int) - 48) := by omega
                have HN := Lib.hid (show numV 8 L 0 = none by rw [hdec, if_neg (by unfold maxN; omega)])
                clear hdec hdv hd HW ha hacc
                go_wp2
                all_goals (rw [← HQ.out]; exact PuGives.bad HNe.out HN.out (by simp) HBe.out)
              · have icut : a < 2305843009213693952 := by omega
                have iov : a * 8 + ((c.toNat : Int) - 48) ≤ 9223372036854775807 := by omega
                have HN : Hid (a * 8 + ((c.toNat : Int) - 48) = ((8 * acc + d : Nat) : Int) ∧ 8 * acc + d ≤ maxN ∧ numV 8 L 0 = numV 8 (L.drop (k + 1)) (8 * acc + d)) := Lib.hid ⟨by omega, by unfold maxN; omega, by rw [hdec, if_pos ⟨by omega, by unfold maxN; omega⟩]⟩
                clear hdec hdv hd HW hmx hov hcut hdb ha hacc
                go_wp2
                refine ⟨⟨k + 1, 8 * acc + d, a * 8 + ((c.toNat : Int) - 48), rfl, (by first | rfl | (congr 1; omega)), (by first | rfl | (congr 1; omega)), by omega, HN⟩, by simp [intOf]; omega⟩
      · have hdb : 8 ≤ d := by omega
        have hdI : (8 : Int) ≤ ((c.toNat : Int) - 97 + 10) := by omega
        · skip
          have HN := Lib.hid (show numV 8 L 0 = none by rw [hdec, if_neg (by unfold maxN; omega)])
          clear hdec hdv hd HW ha hacc
          go_wp2_with (go_at_call 242; refine (hlow _ _).mono ?_; rintro e w' ⟨rfl, rfl⟩; rw [hbt])
          all_goals (rw [← HQ.out]; exact PuGives.bad HNe.out HN.out (by simp) HBe.out)
      · have hdb : 8 ≤ d := by omega
        have hdI : (8 : Int) ≤ ((c.toNat : Int) + 32 - 97 + 10) := by omega
        · skip
          have HN := Lib.hid (show numV 8 L 0 = none by rw [hdec, if_neg (by unfold maxN; omega)])
          clear hdec hdv hd HW ha hacc
          go_wp2_with (go_at_call 242; refine (hlow _ _).mono ?_; rintro e w' ⟨rfl, rfl⟩; rw [hbt])
          all_goals (rw [← HQ.out]; exact PuGives.bad HNe.out HN.out (by simp) HBe.out)
      · have hbt : bits .or .u8 95 32 = 127 := by decide
        have hc9 : (c.toNat : Int) = 95 := by omega
        · skip
          have HN := Lib.hid (show numV 8 L 0 = none by rw [hdec, if_neg (by unfold maxN; omega)])
          clear hdec hdv hd HW ha hacc
          go_wp2_with (go_at_call 242; refine (hlow _ _).mono ?_; rintro e w' ⟨rfl, rfl⟩; rw [hbt])
          all_goals (rw [← HQ.out]; exact PuGives.bad HNe.out HN.out (by simp) HBe.out)
    · have hkk : k = L.length := by omega
      subst hkk
      have HN := Lib.hid (show numV 8 L 0 = some acc by rw [hdec, List.drop_eq_nil_of_le (Nat.le_refl _)]; rfl)
      subst ha
      clear hacc hdec a0 a1
      go_wp2
      rw [← HQ.out]
      exact PuGives.good HNe.out HN.out HBe.out

set_option maxHeartbeats 32000000 in
set_option maxRecDepth 100000 in
theorem pu_10 (L : List UInt8) (hW : ∀ c ∈ L, isW c = true) (hmax : L.length ≤ 16384) (w : World) :
    Calls Tryz.prog 240 #[.string (toB L), .int .i64 10, .int .i64 63] w (PuGives 10 L w) := by
  by_cases hne : L = []
  · subst hne
    have hem0 : (toB []).toList.isEmpty = true := by simp [toB, ByteArray.toList_eq]
    go_enter Tryz.func240, Tryz.ntmps240
    go_wp2
    go_ret2
    exact ⟨⟨0, 2, .inr rfl, rfl⟩, Below.refl _ _⟩
  have hsz := toB_size L
  have hemp : (toB L).toList.isEmpty = false := by
    rw [show (toB L).toList = L by simp [toB, ByteArray.toList_eq]]
    cases L with
    | nil => exact absurd rfl hne
    | cons _ _ => rfl
  have hcv := Lib.run_convert_string_bytes (P := Tryz.prog) w 9 82 5 (toB L) (u := .string) rfl rfl rfl
  have hB : ∀ j, j < L.length → (Lib.bytesWorld w 5 (toB L)).cell? ⟨w.heap.size, j, none⟩ = some (.int .u8 (L.getD j 0).toNat) := fun j hj => Lib.bytesWorld_cell w 5 (toB L) j (by omega)
  have HBe := Lib.hid (show Below w.heap.size w (Lib.bytesWorld w 5 (toB L)) from Lib.bytesWorld_below _ _ _)
  obtain ⟨W1, hW1⟩ : ∃ W1, W1 = Lib.bytesWorld w 5 (toB L) := ⟨_, rfl⟩
  rw [← hW1] at hcv hB HBe
  clear hW1
  obtain ⟨Q, hQ⟩ : ∃ Q, PuGives 10 L w = Q := ⟨_, rfl⟩
  rw [hQ]
  have HQ := Lib.hid hQ
  have HNe := Lib.hid hne
  have HW := Lib.hid hW
  clear hQ hne hW
  have hmv : IntKind.u64.wrap (IntKind.u64.wrap 9223372036854775808 - 1) = 9223372036854775807 := by
    rw [IntKind.wrap_u64, IntKind.wrap_u64]
    decide
  go_enter Tryz.func240, Tryz.ntmps240
  go_wp2
  go_loop [12, 13, 101] (fun vu vn vi => ∃ (k acc : Nat) (a : Int), vu = .bool false ∧ vn = .int .u64 a ∧ vi = .int .i64 k ∧ k ≤ L.length ∧ Hid (a = (acc : Int) ∧ acc ≤ maxN ∧ numV 10 L 0 = numV 10 (L.drop k) acc))
    (fun _ _ vi => L.length - (intOf vi).toNat)
  case atStart => exact ⟨0, 0, 0, rfl, rfl, rfl, by omega, rfl, by simp, rfl⟩
  case round =>
    obtain ⟨k, acc, a, rfl, rfl, rfl, hk, hh⟩ := hrel
    obtain ⟨ha, hacc, hdec⟩ := hh.out
    unfold maxN at hacc
    clear hh
    have a0 : 0 ≤ a := by omega
    have a1 : a ≤ 9223372036854775807 := by omega
    by_cases hkn : k < L.length
    · have hc := hB k hkn
      have hdrop : L.drop k = L[k]'hkn :: L.drop (k + 1) := List.drop_eq_getElem_cons hkn
      have hget : L.getD k 0 = L[k]'hkn := by simp [List.getD, List.getElem?_eq_getElem hkn]
      have hkd := isW_kinds _ (HW.out _ (List.getElem_mem hkn))
      rw [hdrop] at hdec
      rw [hget] at hc
      generalize L[k]'hkn = c at hc hdec hkd
      have hc256 : c.toNat < 256 := c.toNat_lt
      clear hB hdrop hget
      obtain ⟨d, hd⟩ : ∃ d, dv c = d := ⟨_, rfl⟩
      rw [show numV 10 (c :: L.drop (k + 1)) acc = if d < 10 ∧ 10 * acc + d ≤ maxN then numV 10 (L.drop (k + 1)) (10 * acc + d) else none from by rw [← hd]; rfl] at hdec
      unfold Kinds at hkd
      rw [hd] at hkd
      have hlow := rlower_any
      rcases hkd with ⟨hc1, hc2, hdv⟩ | ⟨hc1, hc2, hbt, hdv⟩ | ⟨hc1, hc2, hbt, hdv⟩ | ⟨hc1, hdv⟩
      · by_cases hdb : 10 ≤ d
        · have hdI : (10 : Int) ≤ ((c.toNat : Int) - 48) := by omega
          have HN := Lib.hid (show numV 10 L 0 = none by rw [hdec, if_neg (by unfold maxN; omega)])
          clear hdec hdv hd HW ha hacc
          go_wp2
          all_goals (rw [← HQ.out]; exact PuGives.bad HNe.out HN.out (by simp) HBe.out)
        · have hdI : ((c.toNat : Int) - 48) < (10 : Int) := by omega
          by_cases hcut : 1844674407370955162 ≤ acc
          · have icut : 1844674407370955162 ≤ a := by omega
            have HN := Lib.hid (show numV 10 L 0 = none by rw [hdec, if_neg (by unfold maxN; omega)])
            clear hdec hdv hd HW ha hacc
            go_wp2
            all_goals (rw [← HQ.out]; exact PuGives.bad HNe.out HN.out (by simp) HBe.out)
          · by_cases hov : 18446744073709551616 ≤ 10 * acc + d
            · have icut : a < 1844674407370955162 := by omega
              have iov : 18446744073709551616 ≤ a * 10 + ((c.toNat : Int) - 48) := by omega
              have hwr : IntKind.u64.wrap (a * 10 + ((c.toNat : Int) - 48)) = a * 10 + ((c.toNat : Int) - 48) - 18446744073709551616 := by
                rw [IntKind.wrap_u64]
                omega
              have HN := Lib.hid (show numV 10 L 0 = none by rw [hdec, if_neg (by unfold maxN; omega)])
              clear hdec hdv hd HW ha hacc
              go_wp2
              all_goals (rw [← HQ.out]; exact PuGives.bad HNe.out HN.out (by simp) HBe.out)
            · by_cases hmx : 9223372036854775808 ≤ 10 * acc + d
              · have icut : a < 1844674407370955162 := by omega
                have iov : a * 10 + ((c.toNat : Int) - 48) < 18446744073709551616 := by omega
                have imx : 9223372036854775807 < a * 10 + ((c.toNat : Int) - 48) := by omega
                have HN := Lib.hid (show numV 10 L 0 = none by rw [hdec, if_neg (by unfold maxN; omega)])
                clear hdec hdv hd HW ha hacc
                go_wp2
                all_goals (rw [← HQ.out]; exact PuGives.bad HNe.out HN.out (by simp) HBe.out)
              · have icut : a < 1844674407370955162 := by omega
                have iov : a * 10 + ((c.toNat : Int) - 48) ≤ 9223372036854775807 := by omega
                have HN : Hid (a * 10 + ((c.toNat : Int) - 48) = ((10 * acc + d : Nat) : Int) ∧ 10 * acc + d ≤ maxN ∧ numV 10 L 0 = numV 10 (L.drop (k + 1)) (10 * acc + d)) := Lib.hid ⟨by omega, by unfold maxN; omega, by rw [hdec, if_pos ⟨by omega, by unfold maxN; omega⟩]⟩
                clear hdec hdv hd HW hmx hov hcut hdb ha hacc
                go_wp2
                refine ⟨⟨k + 1, 10 * acc + d, a * 10 + ((c.toNat : Int) - 48), rfl, (by first | rfl | (congr 1; omega)), (by first | rfl | (congr 1; omega)), by omega, HN⟩, by simp [intOf]; omega⟩
      · have hdb : 10 ≤ d := by omega
        have hdI : (10 : Int) ≤ ((c.toNat : Int) - 97 + 10) := by omega
        · skip
          have HN := Lib.hid (show numV 10 L 0 = none by rw [hdec, if_neg (by unfold maxN; omega)])
          clear hdec hdv hd HW ha hacc
          go_wp2_with (go_at_call 242; refine (hlow _ _).mono ?_; rintro e w' ⟨rfl, rfl⟩; rw [hbt])
          all_goals (rw [← HQ.out]; exact PuGives.bad HNe.out HN.out (by simp) HBe.out)
      · have hdb : 10 ≤ d := by omega
        have hdI : (10 : Int) ≤ ((c.toNat : Int) + 32 - 97 + 10) := by omega
        · skip
          have HN := Lib.hid (show numV 10 L 0 = none by rw [hdec, if_neg (by unfold maxN; omega)])
          clear hdec hdv hd HW ha hacc
          go_wp2_with (go_at_call 242; refine (hlow _ _).mono ?_; rintro e w' ⟨rfl, rfl⟩; rw [hbt])
          all_goals (rw [← HQ.out]; exact PuGives.bad HNe.out HN.out (by simp) HBe.out)
      · have hbt : bits .or .u8 95 32 = 127 := by decide
        have hc9 : (c.toNat : Int) = 95 := by omega
        · skip
          have HN := Lib.hid (show numV 10 L 0 = none by rw [hdec, if_neg (by unfold maxN; omega)])
          clear hdec hdv hd HW ha hacc
          go_wp2_with (go_at_call 242; refine (hlow _ _).mono ?_; rintro e w' ⟨rfl, rfl⟩; rw [hbt])
          all_goals (rw [← HQ.out]; exact PuGives.bad HNe.out HN.out (by simp) HBe.out)
    · have hkk : k = L.length := by omega
      subst hkk
      have HN := Lib.hid (show numV 10 L 0 = some acc by rw [hdec, List.drop_eq_nil_of_le (Nat.le_refl _)]; rfl)
      subst ha
      clear hacc hdec a0 a1
      go_wp2
      rw [← HQ.out]
      exact PuGives.good HNe.out HN.out HBe.out

set_option maxHeartbeats 32000000 in
set_option maxRecDepth 100000 in
theorem pu_16 (L : List UInt8) (hW : ∀ c ∈ L, isW c = true) (hmax : L.length ≤ 16384) (w : World) :
    Calls Tryz.prog 240 #[.string (toB L), .int .i64 16, .int .i64 63] w (PuGives 16 L w) := by
  by_cases hne : L = []
  · subst hne
    have hem0 : (toB []).toList.isEmpty = true := by simp [toB, ByteArray.toList_eq]
    go_enter Tryz.func240, Tryz.ntmps240
    go_wp2
    go_ret2
    exact ⟨⟨0, 2, .inr rfl, rfl⟩, Below.refl _ _⟩
  have hsz := toB_size L
  have hemp : (toB L).toList.isEmpty = false := by
    rw [show (toB L).toList = L by simp [toB, ByteArray.toList_eq]]
    cases L with
    | nil => exact absurd rfl hne
    | cons _ _ => rfl
  have hcv := Lib.run_convert_string_bytes (P := Tryz.prog) w 9 82 5 (toB L) (u := .string) rfl rfl rfl
  have hB : ∀ j, j < L.length → (Lib.bytesWorld w 5 (toB L)).cell? ⟨w.heap.size, j, none⟩ = some (.int .u8 (L.getD j 0).toNat) := fun j hj => Lib.bytesWorld_cell w 5 (toB L) j (by omega)
  have HBe := Lib.hid (show Below w.heap.size w (Lib.bytesWorld w 5 (toB L)) from Lib.bytesWorld_below _ _ _)
  obtain ⟨W1, hW1⟩ : ∃ W1, W1 = Lib.bytesWorld w 5 (toB L) := ⟨_, rfl⟩
  rw [← hW1] at hcv hB HBe
  clear hW1
  obtain ⟨Q, hQ⟩ : ∃ Q, PuGives 16 L w = Q := ⟨_, rfl⟩
  rw [hQ]
  have HQ := Lib.hid hQ
  have HNe := Lib.hid hne
  have HW := Lib.hid hW
  clear hQ hne hW
  have hmv : IntKind.u64.wrap (IntKind.u64.wrap 9223372036854775808 - 1) = 9223372036854775807 := by
    rw [IntKind.wrap_u64, IntKind.wrap_u64]
    decide
  go_enter Tryz.func240, Tryz.ntmps240
  go_wp2
  go_loop [12, 13, 101] (fun vu vn vi => ∃ (k acc : Nat) (a : Int), vu = .bool false ∧ vn = .int .u64 a ∧ vi = .int .i64 k ∧ k ≤ L.length ∧ Hid (a = (acc : Int) ∧ acc ≤ maxN ∧ numV 16 L 0 = numV 16 (L.drop k) acc))
    (fun _ _ vi => L.length - (intOf vi).toNat)
  case atStart => exact ⟨0, 0, 0, rfl, rfl, rfl, by omega, rfl, by simp, rfl⟩
  case round =>
    obtain ⟨k, acc, a, rfl, rfl, rfl, hk, hh⟩ := hrel
    obtain ⟨ha, hacc, hdec⟩ := hh.out
    unfold maxN at hacc
    clear hh
    have a0 : 0 ≤ a := by omega
    have a1 : a ≤ 9223372036854775807 := by omega
    by_cases hkn : k < L.length
    · have hc := hB k hkn
      have hdrop : L.drop k = L[k]'hkn :: L.drop (k + 1) := List.drop_eq_getElem_cons hkn
      have hget : L.getD k 0 = L[k]'hkn := by simp [List.getD, List.getElem?_eq_getElem hkn]
      have hkd := isW_kinds _ (HW.out _ (List.getElem_mem hkn))
      rw [hdrop] at hdec
      rw [hget] at hc
      generalize L[k]'hkn = c at hc hdec hkd
      have hc256 : c.toNat < 256 := c.toNat_lt
      clear hB hdrop hget
      obtain ⟨d, hd⟩ : ∃ d, dv c = d := ⟨_, rfl⟩
      rw [show numV 16 (c :: L.drop (k + 1)) acc = if d < 16 ∧ 16 * acc + d ≤ maxN then numV 16 (L.drop (k + 1)) (16 * acc + d) else none from by rw [← hd]; rfl] at hdec
      unfold Kinds at hkd
      rw [hd] at hkd
      have hlow := rlower_any
      rcases hkd with ⟨hc1, hc2, hdv⟩ | ⟨hc1, hc2, hbt, hdv⟩ | ⟨hc1, hc2, hbt, hdv⟩ | ⟨hc1, hdv⟩
      · by_cases hdb : 16 ≤ d
        · have hdI : (16 : Int) ≤ ((c.toNat : Int) - 48) := by omega
          have HN := Lib.hid (show numV 16 L 0 = none by rw [hdec, if_neg (by unfold maxN; omega)])
          clear hdec hdv hd HW ha hacc
          go_wp2
          all_goals (rw [← HQ.out]; exact PuGives.bad HNe.out HN.out (by simp) HBe.out)
        · have hdI : ((c.toNat : Int) - 48) < (16 : Int) := by omega
          by_cases hcut : 1152921504606846976 ≤ acc
          · have icut : 1152921504606846976 ≤ a := by omega
            have HN := Lib.hid (show numV 16 L 0 = none by rw [hdec, if_neg (by unfold maxN; omega)])
            clear hdec hdv hd HW ha hacc
            go_wp2
            all_goals (rw [← HQ.out]; exact PuGives.bad HNe.out HN.out (by simp) HBe.out)
          · by_cases hov : 18446744073709551616 ≤ 16 * acc + d
            · have icut : a < 1152921504606846976 := by omega
              have iov : 18446744073709551616 ≤ a * 16 + ((c.toNat : Int) - 48) := by omega
              have hwr : IntKind.u64.wrap (a * 16 + ((c.toNat : Int) - 48)) = a * 16 + ((c.toNat : Int) - 48) - 18446744073709551616 := by
                rw [IntKind.wrap_u64]
                omega
              have HN := Lib.hid (show numV 16 L 0 = none by rw [hdec, if_neg (by unfold maxN; omega)])
              clear hdec hdv hd HW ha hacc
              go_wp2
              all_goals (rw [← HQ.out]; exact PuGives.bad HNe.out HN.out (by simp) HBe.out)
            · by_cases hmx : 9223372036854775808 ≤ 16 * acc + d
              · have icut : a < 1152921504606846976 := by omega
                have iov : a * 16 + ((c.toNat : Int) - 48) < 18446744073709551616 := by omega
                have imx : 9223372036854775807 < a * 16 + ((c.toNat : Int) - 48) := by omega
                have HN := Lib.hid (show numV 16 L 0 = none by rw [hdec, if_neg (by unfold maxN; omega)])
                clear hdec hdv hd HW ha hacc
                go_wp2
                all_goals (rw [← HQ.out]; exact PuGives.bad HNe.out HN.out (by simp) HBe.out)
              · have icut : a < 1152921504606846976 := by omega
                have iov : a * 16 + ((c.toNat : Int) - 48) ≤ 9223372036854775807 := by omega
                have HN : Hid (a * 16 + ((c.toNat : Int) - 48) = ((16 * acc + d : Nat) : Int) ∧ 16 * acc + d ≤ maxN ∧ numV 16 L 0 = numV 16 (L.drop (k + 1)) (16 * acc + d)) := Lib.hid ⟨by omega, by unfold maxN; omega, by rw [hdec, if_pos ⟨by omega, by unfold maxN; omega⟩]⟩
                clear hdec hdv hd HW hmx hov hcut hdb ha hacc
                go_wp2
                refine ⟨⟨k + 1, 16 * acc + d, a * 16 + ((c.toNat : Int) - 48), rfl, (by first | rfl | (congr 1; omega)), (by first | rfl | (congr 1; omega)), by omega, HN⟩, by simp [intOf]; omega⟩
      · by_cases hdb : 16 ≤ d
        · have hdI : (16 : Int) ≤ ((c.toNat : Int) - 97 + 10) := by omega
          have HN := Lib.hid (show numV 16 L 0 = none by rw [hdec, if_neg (by unfold maxN; omega)])
          clear hdec hdv hd HW ha hacc
          go_wp2_with (go_at_call 242; refine (hlow _ _).mono ?_; rintro e w' ⟨rfl, rfl⟩; rw [hbt])
          all_goals (rw [← HQ.out]; exact PuGives.bad HNe.out HN.out (by simp) HBe.out)
        · have hdI : ((c.toNat : Int) - 97 + 10) < (16 : Int) := by omega
          by_cases hcut : 1152921504606846976 ≤ acc
          · have icut : 1152921504606846976 ≤ a := by omega
            have HN := Lib.hid (show numV 16 L 0 = none by rw [hdec, if_neg (by unfold maxN; omega)])
            clear hdec hdv hd HW ha hacc
            go_wp2_with (go_at_call 242; refine (hlow _ _).mono ?_; rintro e w' ⟨rfl, rfl⟩; rw [hbt])
            all_goals (rw [← HQ.out]; exact PuGives.bad HNe.out HN.out (by simp) HBe.out)
          · by_cases hov : 18446744073709551616 ≤ 16 * acc + d
            · have icut : a < 1152921504606846976 := by omega
              have iov : 18446744073709551616 ≤ a * 16 + ((c.toNat : Int) - 97 + 10) := by omega
              have hwr : IntKind.u64.wrap (a * 16 + ((c.toNat : Int) - 97 + 10)) = a * 16 + ((c.toNat : Int) - 97 + 10) - 18446744073709551616 := by
                rw [IntKind.wrap_u64]
                omega
              have HN := Lib.hid (show numV 16 L 0 = none by rw [hdec, if_neg (by unfold maxN; omega)])
              clear hdec hdv hd HW ha hacc
              go_wp2_with (go_at_call 242; refine (hlow _ _).mono ?_; rintro e w' ⟨rfl, rfl⟩; rw [hbt])
              all_goals (rw [← HQ.out]; exact PuGives.bad HNe.out HN.out (by simp) HBe.out)
            · by_cases hmx : 9223372036854775808 ≤ 16 * acc + d
              · have icut : a < 1152921504606846976 := by omega
                have iov : a * 16 + ((c.toNat : Int) - 97 + 10) < 18446744073709551616 := by omega
                have imx : 9223372036854775807 < a * 16 + ((c.toNat : Int) - 97 + 10) := by omega
                have HN := Lib.hid (show numV 16 L 0 = none by rw [hdec, if_neg (by unfold maxN; omega)])
                clear hdec hdv hd HW ha hacc
                go_wp2_with (go_at_call 242; refine (hlow _ _).mono ?_; rintro e w' ⟨rfl, rfl⟩; rw [hbt])
                all_goals (rw [← HQ.out]; exact PuGives.bad HNe.out HN.out (by simp) HBe.out)
              · have icut : a < 1152921504606846976 := by omega
                have iov : a * 16 + ((c.toNat : Int) - 97 + 10) ≤ 9223372036854775807 := by omega
                have HN : Hid (a * 16 + ((c.toNat : Int) - 97 + 10) = ((16 * acc + d : Nat) : Int) ∧ 16 * acc + d ≤ maxN ∧ numV 16 L 0 = numV 16 (L.drop (k + 1)) (16 * acc + d)) := Lib.hid ⟨by omega, by unfold maxN; omega, by rw [hdec, if_pos ⟨by omega, by unfold maxN; omega⟩]⟩
                clear hdec hdv hd HW hmx hov hcut hdb ha hacc
                go_wp2_with (go_at_call 242; refine (hlow _ _).mono ?_; rintro e w' ⟨rfl, rfl⟩; rw [hbt])
                refine ⟨⟨k + 1, 16 * acc + d, a * 16 + ((c.toNat : Int) - 97 + 10), rfl, (by first | rfl | (congr 1; omega)), (by first | rfl | (congr 1; omega)), by omega, HN⟩, by simp [intOf]; omega⟩
      · by_cases hdb : 16 ≤ d
        · have hdI : (16 : Int) ≤ ((c.toNat : Int) + 32 - 97 + 10) := by omega
          have HN := Lib.hid (show numV 16 L 0 = none by rw [hdec, if_neg (by unfold maxN; omega)])
          clear hdec hdv hd HW ha hacc
          go_wp2_with (go_at_call 242; refine (hlow _ _).mono ?_; rintro e w' ⟨rfl, rfl⟩; rw [hbt])
          all_goals (rw [← HQ.out]; exact PuGives.bad HNe.out HN.out (by simp) HBe.out)
        · have hdI : ((c.toNat : Int) + 32 - 97 + 10) < (16 : Int) := by omega
          by_cases hcut : 1152921504606846976 ≤ acc
          · have icut : 1152921504606846976 ≤ a := by omega
            have HN := Lib.hid (show numV 16 L 0 = none by rw [hdec, if_neg (by unfold maxN; omega)])
            clear hdec hdv hd HW ha hacc
            go_wp2_with (go_at_call 242; refine (hlow _ _).mono ?_; rintro e w' ⟨rfl, rfl⟩; rw [hbt])
            all_goals (rw [← HQ.out]; exact PuGives.bad HNe.out HN.out (by simp) HBe.out)
          · by_cases hov : 18446744073709551616 ≤ 16 * acc + d
            · have icut : a < 1152921504606846976 := by omega
              have iov : 18446744073709551616 ≤ a * 16 + ((c.toNat : Int) + 32 - 97 + 10) := by omega
              have hwr : IntKind.u64.wrap (a * 16 + ((c.toNat : Int) + 32 - 97 + 10)) = a * 16 + ((c.toNat : Int) + 32 - 97 + 10) - 18446744073709551616 := by
                rw [IntKind.wrap_u64]
                omega
              have HN := Lib.hid (show numV 16 L 0 = none by rw [hdec, if_neg (by unfold maxN; omega)])
              clear hdec hdv hd HW ha hacc
              go_wp2_with (go_at_call 242; refine (hlow _ _).mono ?_; rintro e w' ⟨rfl, rfl⟩; rw [hbt])
              all_goals (rw [← HQ.out]; exact PuGives.bad HNe.out HN.out (by simp) HBe.out)
            · by_cases hmx : 9223372036854775808 ≤ 16 * acc + d
              · have icut : a < 1152921504606846976 := by omega
                have iov : a * 16 + ((c.toNat : Int) + 32 - 97 + 10) < 18446744073709551616 := by omega
                have imx : 9223372036854775807 < a * 16 + ((c.toNat : Int) + 32 - 97 + 10) := by omega
                have HN := Lib.hid (show numV 16 L 0 = none by rw [hdec, if_neg (by unfold maxN; omega)])
                clear hdec hdv hd HW ha hacc
                go_wp2_with (go_at_call 242; refine (hlow _ _).mono ?_; rintro e w' ⟨rfl, rfl⟩; rw [hbt])
                all_goals (rw [← HQ.out]; exact PuGives.bad HNe.out HN.out (by simp) HBe.out)
              · have icut : a < 1152921504606846976 := by omega
                have iov : a * 16 + ((c.toNat : Int) + 32 - 97 + 10) ≤ 9223372036854775807 := by omega
                have HN : Hid (a * 16 + ((c.toNat : Int) + 32 - 97 + 10) = ((16 * acc + d : Nat) : Int) ∧ 16 * acc + d ≤ maxN ∧ numV 16 L 0 = numV 16 (L.drop (k + 1)) (16 * acc + d)) := Lib.hid ⟨by omega, by unfold maxN; omega, by rw [hdec, if_pos ⟨by omega, by unfold maxN; omega⟩]⟩
                clear hdec hdv hd HW hmx hov hcut hdb ha hacc
                go_wp2_with (go_at_call 242; refine (hlow _ _).mono ?_; rintro e w' ⟨rfl, rfl⟩; rw [hbt])
                refine ⟨⟨k + 1, 16 * acc + d, a * 16 + ((c.toNat : Int) + 32 - 97 + 10), rfl, (by first | rfl | (congr 1; omega)), (by first | rfl | (congr 1; omega)), by omega, HN⟩, by simp [intOf]; omega⟩
      · have hbt : bits .or .u8 95 32 = 127 := by decide
        have hc9 : (c.toNat : Int) = 95 := by omega
        · skip
          have HN := Lib.hid (show numV 16 L 0 = none by rw [hdec, if_neg (by unfold maxN; omega)])
          clear hdec hdv hd HW ha hacc
          go_wp2_with (go_at_call 242; refine (hlow _ _).mono ?_; rintro e w' ⟨rfl, rfl⟩; rw [hbt])
          all_goals (rw [← HQ.out]; exact PuGives.bad HNe.out HN.out (by simp) HBe.out)
    · have hkk : k = L.length := by omega
      subst hkk
      have HN := Lib.hid (show numV 16 L 0 = some acc by rw [hdec, List.drop_eq_nil_of_le (Nat.le_refl _)]; rfl)
      subst ha
      clear hacc hdec a0 a1
      go_wp2
      rw [← HQ.out]
      exact PuGives.good HNe.out HN.out HBe.out

end Go.Proofs.YtiigclkebnmopaaGreatDoor
