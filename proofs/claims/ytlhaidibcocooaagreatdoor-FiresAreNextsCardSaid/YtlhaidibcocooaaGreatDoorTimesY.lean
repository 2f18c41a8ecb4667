/- TimesCheck: the law's walk. -/
import Derived.Test.YtlhaidibcocooaaGreatDoorTimesX
namespace Go.Proofs.YtlhaidibcocooaaGreatDoor
open Go.RowKit

theorem fields_small (a0 a1 a2 a3 a4 : Nat) (b5 b6 : Bool) (h0 : a0 < 18446744073709551616) (h1 : a1 < 18446744073709551616) (h2 : a2 < 18446744073709551616) (h3 : a3 < 18446744073709551616) (h4 : a4 < 18446744073709551616) : ∀ j, j < 5 → (fieldB (fieldK a0 a1 a2 a3 a4 b5 b6) j).size ≤ 100000 := by
  intro j hj
  obtain ⟨set, sp, any, hs, he, _⟩ := fieldK_at a0 a1 a2 a3 a4 b5 b6 j hj h0 h1 h2 h3 h4
  show (fieldT ((fieldK a0 a1 a2 a3 a4 b5 b6 j).getD [])).toArray.size ≤ 100000
  rw [List.size_toArray]
  cases hk : fieldK a0 a1 a2 a3 a4 b5 b6 j with
  | none => decide
  | some l =>
    have := (shown_text (he.symm.trans hk) hs).2
    show (fieldT l).length ≤ 100000
    omega
theorem printV_form (K : Nat → Option (List PK)) : ∃ (s : ByteArray) (e : Int), printV K = .tuple #[.string s, .int .i64 e] ∧ (e = 0 ∨ e = 5) := by
  unfold printV
  split
  · exact ⟨_, _, rfl, .inl rfl⟩
  · exact ⟨_, _, rfl, .inr rfl⟩
set_option maxRecDepth 100000 in
set_option maxHeartbeats 1600000 in
theorem times_walk (a0 a1 a2 a3 a4 : Nat) (b5 b6 : Bool) (w : World) (h0 : a0 < 18446744073709551616) (h1 : a1 < 18446744073709551616) (h2 : a2 < 18446744073709551616) (h3 : a3 < 18446744073709551616) (h4 : a4 < 18446744073709551616) (hm : MaxLenAt w) :
    Calls Tryz.prog 3 #[.agg #[.int .u64 (a0 : Int), .int .u64 (a1 : Int), .int .u64 (a2 : Int), .int .u64 (a3 : Int), .int .u64 (a4 : Int), .bool b5, .bool b6]] w fun e w' => e = .returned (.bool true) ∧ Below w.heap.size w w' := by
  have hsz := fields_small a0 a1 a2 a3 a4 b5 b6 h0 h1 h2 h3 h4
  obtain ⟨s, er, hV, _⟩ := printV_form (fieldK a0 a1 a2 a3 a4 b5 b6)
  have HP : Hid (∀ W, Calls Tryz.prog 8 #[.agg #[.int .u64 (a0 : Int), .int .u64 (a1 : Int), .int .u64 (a2 : Int), .int .u64 (a3 : Int), .int .u64 (a4 : Int), .bool b5, .bool b6]] W fun e w' => e = .returned (.tuple #[.string s, .int .i64 er]) ∧ Below W.heap.size W w') := Lib.hid (fun W => by
    rw [← hV]
    exact print_any a0 a1 a2 a3 a4 b5 b6 W h0 h1 h2 h3 h4 hsz)
  have HR : Hid (∀ W, MaxLenAt W → Calls Tryz.prog 9 #[.agg #[.int .u64 (a0 : Int), .int .u64 (a1 : Int), .int .u64 (a2 : Int), .int .u64 (a3 : Int), .int .u64 (a4 : Int), .bool b5, .bool b6]] W fun e w' => e = .returned (.tuple #[.string s, .int .i64 er]) ∧ Below W.heap.size W w') := Lib.hid (fun W hW => by
    rw [← hV]
    exact rprint_any a0 a1 a2 a3 a4 b5 b6 W h0 h1 h2 h3 h4 hsz hW)
  have HM := Lib.hid hm
  have HX := Lib.hid (BX.start w #[.int .u64 (a0 : Int), .int .u64 (a1 : Int), .int .u64 (a2 : Int), .int .u64 (a3 : Int), .int .u64 (a4 : Int), .bool b5, .bool b6] 24)
  clear hsz hV hm h0 h1 h2 h3 h4
  go_enter Tryz.func3, Tryz.ntmps3
  go_wp2_with fail
  refine (landed_any _).mono ?_
  rintro e w2 ⟨rfl, hb2⟩
  have HX2 := Lib.hid (HX.out.keep hb2)
  have cx := HX2.out.cells
  have lx := HX2.out.lt
  clear hb2 HX
  go_wp2_with fail
  refine (HP.out _).mono ?_
  rintro e w3 ⟨rfl, hb3⟩
  have HX3 := Lib.hid (HX2.out.keep hb3)
  clear cx lx
  have cx := HX3.out.cells
  have lx := HX3.out.lt
  clear hb3 HX2
  go_wp2_with fail
  refine (HR.out _ (HM.out.keep HX3.out.below)).mono ?_
  rintro e w4 ⟨rfl, hb4⟩
  have HX4 := Lib.hid (HX3.out.keep hb4)
  clear hb4 HX3 cx lx
  go_wp2_with fail
  go_ret
  exact ⟨rfl, HX4.out.below⟩

end Go.Proofs.YtlhaidibcocooaaGreatDoor
