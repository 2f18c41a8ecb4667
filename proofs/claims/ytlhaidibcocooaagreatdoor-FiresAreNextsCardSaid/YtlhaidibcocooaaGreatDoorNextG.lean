/- Times: Next of the reference. -/
import Derived.Test.YtlhaidibcocooaaGreatDoorNextF
namespace Go.Proofs.YtlhaidibcocooaaGreatDoor
open Go.RowKit

set_option maxRecDepth 100000 in
set_option maxHeartbeats 3200000 in
theorem rNext_any (a0 a1 a2 a3 a4 : Nat) (b5 b6 : Bool) (s : ByteArray) (er : Int) (m : Int) (w : World) (h0 : a0 < 18446744073709551616) (h1 : a1 < 18446744073709551616) (h2 : a2 < 18446744073709551616) (h3 : a3 < 18446744073709551616) (h4 : a4 < 18446744073709551616) (hp : printV (fieldK a0 a1 a2 a3 a4 b5 b6) = .tuple #[.string s, .int .i64 er]) (hm : MaxLenAt w) :
    Calls Tryz.prog 14 #[.agg #[.int .u64 (a0 : Int), .int .u64 (a1 : Int), .int .u64 (a2 : Int), .int .u64 (a3 : Int), .int .u64 (a4 : Int), .bool b5, .bool b6], .int .i64 m] w (NextGives er (hitB a0 a1 a2 a3 a4 b5 b6) m w) := by
  have HX := Lib.hid (BX.start w #[.int .u64 (a0 : Int), .int .u64 (a1 : Int), .int .u64 (a2 : Int), .int .u64 (a3 : Int), .int .u64 (a4 : Int), .bool b5, .bool b6] 24)
  have HP := Lib.hid (fun W hW => rprint_any a0 a1 a2 a3 a4 b5 b6 W h0 h1 h2 h3 h4 (fields_small a0 a1 a2 a3 a4 b5 b6 h0 h1 h2 h3 h4) hW)
  rw [hp] at HP
  have HD := Lib.hid (fun c W hc1 hc2 => rnext_any a0 a1 a2 a3 a4 b5 b6 c W h0 h1 h2 h3 h4 hc1 hc2)
  have cx := HX.out.cells
  have lx := HX.out.lt
  have HM := Lib.hid (hm.keep ((Below.refl w.heap.size w).alloc (Nat.le_refl _) (.cells #[.int .u64 (a0 : Int), .int .u64 (a1 : Int), .int .u64 (a2 : Int), .int .u64 (a3 : Int), .int .u64 (a4 : Int), .bool b5, .bool b6] 24)))
  generalize hitB a0 a1 a2 a3 a4 b5 b6 = f at *
  obtain ⟨Q, hQ⟩ : ∃ Q, NextGives er f m w = Q := ⟨_, rfl⟩
  rw [hQ]
  have HQ := Lib.hid hQ
  clear hQ h0 h1 h2 h3 h4 hp hm
  go_enter Tryz.func14, Tryz.ntmps14
  go_wp2_with fail
  refine (HP.out _ HM.out).mono ?_
  rintro e w2 ⟨rfl, hb2⟩
  have HX2 := Lib.hid (HX.out.keep hb2)
  clear cx lx hb2 HX
  have cx := HX2.out.cells
  have lx := HX2.out.lt
  by_cases he : er = 0
  · subst he
    by_cases hy : 15778080 ≤ m ∧ m ≤ 68374079
    · have hy1 := hy.1
      have hy2 := hy.2
      have HY := Lib.hid hy
      clear hy
      go_wp2_with fail
      refine (HD.out (m + 1) _ (by omega) (by omega)).mono ?_
      rintro e w4 ⟨r, hr, rfl, hb4⟩
      have HX4 := Lib.hid (HX2.out.keep hb4)
      have HR := Lib.hid hr
      clear cx lx hb4 HX2
      cases r with
      | none =>
        clear hr
        unfold Option.getD
        dsimp only
        go_wp2_with fail
        rw [← HQ.out]
        exact ⟨_, .inr (.inr ⟨rfl, HY.out, none, HR.out, rfl⟩), rfl, HX4.out.below⟩
      | some n =>
        have hn : 0 ≤ n := by have := hr.1; omega
        clear hr
        unfold Option.getD
        dsimp only
        go_wp2_with fail
        rw [← HQ.out]
        exact ⟨_, .inr (.inr ⟨rfl, HY.out, some n, HR.out, rfl⟩), rfl, HX4.out.below⟩
    · have HY := Lib.hid hy
      by_cases hlo : m < 15778080
      · clear hy
        go_wp2_with fail
        rw [← HQ.out]
        exact ⟨_, .inr (.inl ⟨rfl, HY.out, rfl⟩), rfl, HX2.out.below⟩
      · have hhi : 68374079 < m := by omega
        clear hy
        go_wp2_with fail
        rw [← HQ.out]
        exact ⟨_, .inr (.inl ⟨rfl, HY.out, rfl⟩), rfl, HX2.out.below⟩
  · have hne : (er == 0) = false := by rw [beq_eq_false_iff_ne]; exact he
    have hne2 : (er != 0) = true := by simpa using he
    have HE := Lib.hid he
    clear he
    go_wp2_with fail
    rw [← HQ.out]
    exact ⟨_, .inl ⟨HE.out, rfl⟩, rfl, HX2.out.below⟩

end Go.Proofs.YtlhaidibcocooaaGreatDoor
