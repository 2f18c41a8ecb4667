/- ConstMatches, the walk: of the words that the law builds, both Const tell the same. Condition: what is read are numbers. -/
import Derived.Test.YtbgmjmooifjhjaaDoorDiceJ
namespace Go.Proofs.YtbgmjmooifjhjaaDoor
open Go.RowKit

/-- numbers that came in -/
def NS (w : World) (A : Option Addr) (n c : Nat) : Prop := n ≤ c ∧ n ≤ 9223372036854775807 ∧ (0 < n → ∃ g off, A = some ⟨g, off, none⟩ ∧ g < w.heap.size ∧ ∀ j, j < n → ∃ x : Int, w.cell? ⟨g, off + j, none⟩ = some (.int .i64 x))
theorem DB.start {w : World} {A : Option Addr} {n c : Nat} (h : NS w A n c) : DB (w.alloc (.cells #[.slice A n c, .int .i64 0, .int .i64 20] 45)) w.heap.size (w.heap.size + 1) 0 := by
  obtain ⟨h1, h2, h3⟩ := h
  refine ⟨A, n, c, 0, 20, ⟨Nat.lt_succ_self _, by simp, fun hn a ha => by obtain ⟨g, off, rfl, hg, _⟩ := h3 hn; injection ha with ha; subst ha; exact Nat.lt_succ_of_lt hg⟩, ⟨heap_alloc_new w _, fun hn => ?_, h1⟩, h2, by decide, by decide, by decide, by decide⟩
  obtain ⟨g, off, rfl, hg, hx⟩ := h3 hn
  refine ⟨g, off, rfl, by simp; omega, by omega, fun j hj => ?_⟩
  obtain ⟨x, hx⟩ := hx j hj
  exact ⟨x, some_alloc hx _⟩
theorem below_of_only {w w1 w2 : World} (h : Below w.heap.size w w1) (ho : Only w.heap.size w1 w2) : Below w.heap.size w w2 :=
  ⟨ho.os.trans h.os, ho.tape.trans h.tape, ho.output.trans h.output, Nat.le_trans h.size ho.size, fun k hk => (ho.block k (Nat.lt_of_lt_of_le hk h.size) (by omega)).trans (h.block k hk)⟩
theorem NS.keep {w w' : World} {A : Option Addr} {n c : Nat} (h : NS w A n c) (hb : Below w.heap.size w w') : NS w' A n c := by
  obtain ⟨h1, h2, h3⟩ := h
  refine ⟨h1, h2, fun hn => ?_⟩
  obtain ⟨g, off, rfl, hg, hx⟩ := h3 hn
  refine ⟨g, off, rfl, Nat.lt_of_lt_of_le hg hb.size, fun j hj => ?_⟩
  obtain ⟨x, hx⟩ := hx j hj
  exact ⟨x, (hb.cell (p := ⟨g, off + j, none⟩) hg).trans hx⟩

set_option maxHeartbeats 800000 in
theorem newDice_any (A : Option Addr) (n c : Nat) (w : World) (h : NS w A n c) :
    Calls Tryd.prog 6 #[.slice A n c, .int .i64 20] w fun e w' => e = .returned (.pointer (some ⟨w.heap.size, 0, none⟩)) ∧ DB w' w.heap.size (w.heap.size + 1) 0 ∧ Below w.heap.size w w' := by
  have HD := Lib.hid (DB.start h)
  have HB := Lib.hid ((Below.refl _ w).alloc (Nat.le_refl _) (.cells #[.slice A n c, .int .i64 0, .int .i64 20] 45))
  clear h
  go_enter Tryd.func6, Tryd.ntmps6
  go_wp2_with fail
  go_ret
  exact ⟨rfl, HD.out, HB.out⟩

set_option maxRecDepth 100000 in
set_option maxHeartbeats 1600000 in
theorem const_walk (A : Option Addr) (n c : Nat) (w : World) (h : NS w A n c) :
    Calls Tryd.prog 3 #[.slice A n c] w fun e w' => e = .returned (.bool true) ∧ Below w.heap.size w w' := by
  have HN := Lib.hid h
  clear h
  go_enter Tryd.func3, Tryd.ntmps3
  go_wp2_with fail
  refine (landed_any w).mono ?_
  rintro e w1 ⟨rfl, hb1⟩
  have HB1 := Lib.hid hb1
  clear hb1
  go_wp2_with fail
  refine (newDice_any A n c w1 (HN.out.keep HB1.out)).mono ?_
  rintro e w2 ⟨rfl, hd2, hb2⟩
  have HD2 := Lib.hid hd2
  have HB2 := Lib.hid hb2
  clear hd2 hb2
  go_wp2_with fail
  obtain ⟨m2, hw2⟩ := word_two _ _ w2 HD2.out
  refine hw2.mono ?_
  clear hw2
  rintro e w3 ⟨v, l, rfl, hl, hs⟩
  have HB3 := Lib.hid (HB1.out.trans ((below_of_only HB2.out hs.only).mono HB1.out.size))
  have HWM := Lib.hid (hs.word hl)
  obtain ⟨A3, c3, rfl, _⟩ := hs.form
  clear hs hl HD2 HB2 HB1
  generalize l.map PQ.pc = pl at *
  go_wp2_with fail
  refine (const_any pl _ w3 HWM.out.1 HWM.out.2.1 HWM.out.2.2.1 HWM.out.2.2.2).mono ?_
  rintro e w4 ⟨rfl, hb4⟩
  have HW4 := Lib.hid (HWM.out.1.keep hb4)
  have HB4 := Lib.hid (HB3.out.trans (hb4.mono HB3.out.size))
  clear hb4
  go_wp2_with fail
  refine (rconst_any pl _ w4 HW4.out HWM.out.2.1 HWM.out.2.2.1 HWM.out.2.2.2).mono ?_
  rintro e w5 ⟨rfl, hb5⟩
  have HB5 := Lib.hid (HB4.out.trans (hb5.mono HB4.out.size))
  clear hb5
  generalize (constL ⟨#[]⟩ pl).1 = s at *
  generalize (constL ⟨#[]⟩ pl).2 = q at *
  cases q
  all_goals
    go_wp2_with fail
    go_ret
    exact ⟨by simp, HB5.out⟩

end Go.Proofs.YtbgmjmooifjhjaaDoor
