/- MutatedArithReads, the walk. -/
import Derived.Test.YtiigclkebnmopaaGreatDoorArRPa
import Derived.Test.YtiigclkebnmopaaGreatDoorDiceU
namespace Go.Proofs.YtiigclkebnmopaaGreatDoor
open Go.RowKit Go.Shelf

/-- numbers that came in -/
def NS (w : World) (A : Option Addr) (n c : Nat) : Prop := n ≤ c ∧ n ≤ 9223372036854775807 ∧ (0 < n → ∃ g off, A = some ⟨g, off, none⟩ ∧ g < w.heap.size ∧ ∀ j, j < n → ∃ x : Int, w.cell? ⟨g, off + j, none⟩ = some (.int .i64 x))
theorem DB.start {w : World} {A : Option Addr} {n c : Nat} (h : NS w A n c) (left : Int) (h0 : 0 ≤ left) (h1 : left ≤ 100) : DB (w.alloc (.cells #[.slice A n c, .int .i64 0, .int .i64 left] 75)) w.heap.size (w.heap.size + 1) 0 := by
  obtain ⟨h2, h3, h4⟩ := h
  refine ⟨A, n, c, 0, left, ⟨Nat.lt_succ_self _, by simp, fun hn a ha => by obtain ⟨g, off, rfl, hg, _⟩ := h4 hn; injection ha with ha; subst ha; exact Nat.lt_succ_of_lt hg⟩, ⟨heap_alloc_new w _, fun hn => ?_, h2⟩, h3, by decide, by decide, by omega, h1⟩
  obtain ⟨g, off, rfl, hg, hx⟩ := h4 hn
  refine ⟨g, off, rfl, by simp; omega, by omega, fun j hj => ?_⟩
  obtain ⟨x, hx⟩ := hx j hj
  exact ⟨x, some_alloc hx _⟩
theorem below_of_only {w w1 w2 : World} (h : Below w.heap.size w w1) (ho : Only w.heap.size w1 w2) : Below w.heap.size w w2 :=
  ⟨ho.os.trans h.os, ho.tape.trans h.tape, ho.output.trans h.output, Nat.le_trans h.size ho.size, fun k hk => (ho.block k (Nat.lt_of_lt_of_le hk h.size) (by omega)).trans (h.block k hk)⟩
theorem NS.keep {w w' : World} {A : Option Addr} {n c : Nat} (h : NS w A n c) (hb : Below w.heap.size w w') : NS w' A n c := by
  obtain ⟨h1, h2, h3⟩ := h
  refine ⟨h1, h2, fun hn => ?_⟩
  obtain ⟨g, off, rfl, hg, hx⟩ := h3 hn
  refine ⟨g, off, rfl, Nat.lt_of_lt_of_le hg hb.size, fun j hj => ?_⟩
  obtain ⟨x, hx⟩ := hx j hj
  exact ⟨x, (hb.cell (p := ⟨g, off + j, none⟩) hg).trans hx⟩

set_option maxHeartbeats 800000 in
theorem newDice_any (A : Option Addr) (n c : Nat) (left : Int) (h0 : 0 ≤ left) (h1 : left ≤ 100) (w : World) (h : NS w A n c) :
    Calls Tryz.prog 11 #[.slice A n c, .int .i64 left] w fun e w' => e = .returned (.pointer (some ⟨w.heap.size, 0, none⟩)) ∧ DB w' w.heap.size (w.heap.size + 1) 0 ∧ Below w.heap.size w w' := by
  have HD := Lib.hid (DB.start h left h0 h1)
  have HB := Lib.hid ((Below.refl _ w).alloc (Nat.le_refl _) (.cells #[.slice A n c, .int .i64 0, .int .i64 left] 75))
  clear h
  go_enter Tryz.func11, Tryz.ntmps11
  go_wp2_with fail
  go_ret
  exact ⟨rfl, HD.out, HB.out⟩
/-- what the dice build at depth 5 or 6 -/
theorem built (b B : Nat) (deep : Int) (hd : deep = 5 ∨ deep = 6) (w : World) (h : DB w b B 0) :
    Calls Tryz.prog 12 #[.pointer (some ⟨b, 0, none⟩), .int .i64 deep] w (EP b B (ecost 9) deep w) := by
  have h1 := expr_any b B 9 deep (by omega) (by omega) (by omega) w 0 h (by decide)
  rwa [Nat.zero_add] at h1
end Go.Proofs.YtiigclkebnmopaaGreatDoor
