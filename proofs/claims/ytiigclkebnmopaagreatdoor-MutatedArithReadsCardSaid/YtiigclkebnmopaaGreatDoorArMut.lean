/- MutatedArithReads, the walk. -/
import Derived.Test.YtiigclkebnmopaaGreatDoorArRPa
import Derived.Test.YtiigclkebnmopaaGreatDoorDiceU
namespace Go.Proofs.YtiigclkebnmopaaGreatDoor
open Go.RowKit Go.Shelf

/-- numbers that came in -/
def NS (w : World) (A : Option Addr) (n c : Nat) : Prop := n ≤ c ∧ n ≤ 9223372036854775807 ∧ (0 < n → ∃ g off, A = some ⟨g, off, none⟩ ∧ g < w.heap.size ∧ ∀ j, j < n → ∃ x : Int, w.cell? ⟨g, off + j, none⟩ = some (.int .i64 x))
theorem DB.start {w : World} {A : Option Addr} {n c : Nat} (h : NS w A n c) (left : Int) (h0 : 0 ≤ left) (h1 : left ≤ 100) : DB (w.alloc (.cells #[.slice A n c, .int .i64 0, .int .i64 left] 75)) w.heap.size (w.heap.size + 1) 0 := by
  obtain ⟨h2, h3, h4⟩ := h
  refine ⟨A, n, c, 0, left, ⟨Nat.lt_succ_self _, by simp, fun hn a ha => by obtain ⟨g, off, rfl, hg, _⟩ := h4 hn; injection ha with ha; subst ha; exact Nat.lt_succ_of_lt hg⟩, ⟨heap_alloc_new w _, fun hn => ?_, h2⟩, h3, by decide, by decide, by omega, h1⟩
  obtain ⟨g, off, rfl, hg, hx⟩ := h4 hn
  refine ⟨g, off, rfl, by simp; omega, by omega, fun j hj => ?_⟩
  obtain ⟨x, hx⟩ := hx j hj
  exact ⟨x, some_alloc hx _⟩
theorem below_of_only {w w1 w2 : World} (h : Below w.heap.size w w1) (ho : Only w.heap.size w1 w2) : Below w.heap.size w w2 :=
  ⟨ho.os.trans h.os, ho.tape.trans h.tape, ho.output.trans h.output, Nat.le_trans h.size ho.size, fun k hk => (ho.block k (Nat.lt_of_lt_of_le hk h.size) (by omega)).trans (h.block k hk)⟩
theorem NS.keep {w w' : World} {A : Option Addr} {n c : Nat} (h : NS w A n c) (hb : Below w.heap.size w w') : NS w' A n c := by
  obtain ⟨h1, h2, h3⟩ := h
  refine ⟨h1, h2, fun hn => ?_⟩
  obtain ⟨g, off, rfl, hg, hx⟩ := h3 hn
  refine ⟨g, off, rfl, Nat.lt_of_lt_of_le hg hb.size, fun j hj => ?_⟩
  obtain ⟨x, hx⟩ := hx j hj
  exact ⟨x, (hb.cell (p := ⟨g, off + j, none⟩) hg).trans hx⟩

set_option maxHeartbeats 800000 in
theorem newDice_any (A : Option Addr) (n c : Nat) (left : Int) (h0 : 0 ≤ left) (h1 : left ≤ 100) (w : World) (h : NS w A n c) :
    Calls Tryz.prog 11 #[.slice A n c, .int .i64 left] w fun e w' => e = .returned (.pointer (some ⟨w.heap.size, 0, none⟩)) ∧ DB w' w.heap.size (w.heap.size + 1) 0 ∧ Below w.heap.size w w' := by
  have HD := Lib.hid (DB.start h left h0 h1)
  have HB := Lib.hid ((Below.refl _ w).alloc (Nat.le_refl _) (.cells #[.slice A n c, .int .i64 0, .int .i64 left] 75))
  clear h
  go_enter Tryz.func11, Tryz.ntmps11
  go_wp2_with fail
  go_ret
  exact ⟨rfl, HD.out, HB.out⟩
theorem tb5 : tb 5 ≤ 1000000 := by decide
theorem tb6 : tb 6 ≤ 32768 := by decide
/-- what the dice build at depth 5 or 6 -/
theorem built (b B : Nat) (deep : Int) (hd : deep = 5 ∨ deep = 6) (w : World) (h : DB w b B 0) :
    Calls Tryz.prog 12 #[.pointer (some ⟨b, 0, none⟩), .int .i64 deep] w (EP b B (ecost 9) deep w) := by
  have h1 := expr_any b B 9 deep (by omega) (by omega) (by omega) w 0 h (by decide)
  rwa [Nat.zero_add] at h1
/-- any text -/
theorem arith_walkB (s : ByteArray) (w : World) (hT : s.size < 9223372036854775808) (hx : EX w) (hp : PX w) :
    Calls Tryz.prog 3 #[.string s] w fun e w' => e = .returned (.bool true) ∧ Below w.heap.size w w' :=
  arith_walk s.data.toList w (by rw [size_toList]; exact hT) hx hp

set_option maxRecDepth 100000 in
set_option maxHeartbeats 3200000 in
theorem mut_walk (A : Option Addr) (n c : Nat) (at' long : Int) (s : ByteArray) (w : World) (h : NS w A n c) (hs : s.size ≤ 140737488355328) (hx : EX w) (hp : PX w) (hpw : PW w) :
    Calls Tryz.prog 5 #[.slice A n c, .int .i64 at', .int .i64 long, .string s] w fun e w' => e = .returned (.bool true) ∧ Below w.heap.size w w' := by
  have HN := Lib.hid h
  have HX := Lib.hid (fun W (hb : Below w.heap.size w W) => And.intro (hx.below hb) (And.intro (hp.below hb) (hpw.keep hb)))
  clear h hx hp hpw
  go_enter Tryz.func5, Tryz.ntmps5
  go_wp2_with fail
  refine (landed_any w).mono ?_
  rintro e w1 ⟨rfl, hb1⟩
  have HB1 := Lib.hid hb1
  clear hb1
  go_wp2_with fail
  refine (newDice_any A n c 40 (by decide) (by decide) w1 (HN.out.keep HB1.out)).mono ?_
  rintro e w2 ⟨rfl, hd2, hb2⟩
  have HD2 := Lib.hid hd2
  have HB2 := Lib.hid hb2
  have hl12 := hd2.lt
  clear hd2 hb2
  go_wp2_with fail
  refine (built w1.heap.size (w1.heap.size + 1) 5 (.inl rfl) w2 HD2.out).mono ?_
  rintro e w3 ⟨op, nm, n3, A3, l3, c3, rfl, _, ho3, hx3⟩
  obtain ⟨x, hx3, hdo⟩ := hx3 w1.heap.size hl12 (Nat.le_refl _)
  obtain ⟨hd1, hd2, hd3⟩ := hdo
  have HB3 := Lib.hid (HB1.out.trans ((below_of_only HB2.out ho3).mono HB1.out.size))
  have h5 := tb5
  have HP := Lib.hid (rprint_ok _ x hd1 (by omega) (by omega) _ w3 hx3 (HX.out w3 HB3.out).2.2)
  have hwl := shw_le x
  have hTl : (shw x).length ≤ 1000000 := by omega
  clear ho3 hx3 hd1 hd2 hd3 hwl h5
  generalize shw x = T at *
  go_wp2_with fail
  refine HP.out.mono ?_
  rintro e w4 ⟨rfl, hb4⟩
  have HB4 := Lib.hid (HB3.out.trans (hb4.mono HB3.out.size))
  have hsz := toB_size T
  clear hb4 HP
  go_wp2_with fail
  refine (pwithin_det at' (T.length : Int) _ (by omega) (by omega)).mono ?_
  rintro e w5 ⟨rfl, rfl⟩
  obtain ⟨i, hi, hi2⟩ : ∃ i : Nat, pw at' (T.length : Int) = (i : Int) ∧ i ≤ T.length := ⟨(pw at' (T.length : Int)).toNat, by have := pw_range at' (T.length : Int) (by omega); omega, by have := pw_range at' (T.length : Int) (by omega); omega⟩
  rw [hi]
  clear hi
  obtain ⟨r, hr, hr2⟩ : ∃ r : Nat, pw long 3 = (r : Int) ∧ r ≤ 3 := ⟨(pw long 3).toNat, by have := pw_range long 3 (by omega); omega, by have := pw_range long 3 (by omega); omega⟩
  have HW := Lib.hid (fun W => pwithin_det long 3 W (by omega) (by omega))
  rw [hr] at HW
  clear hr
  have hw1 : IntKind.i64.wrap ((i : Int) + (r : Int)) = (i : Int) + (r : Int) := IntWalk.i64_in _ (by omega)
  have he1 : ((toB T).extract 0 i).size = i := by simp [ByteArray.size_extract]; omega
  have hk1 : ¬ 9223372036854775807 < i + s.size := by omega
  have HX4 := Lib.hid (fun W (hb : Below w4.heap.size w4 W) => HX.out W (HB4.out.trans (hb.mono HB4.out.size)))
  have hmin : 0 ≤ min (T.length : Int) ((i : Int) + (r : Int)) ∧ min (T.length : Int) ((i : Int) + (r : Int)) ≤ (T.length : Int) := by omega
  have hk2 : ¬ 9223372036854775807 < i + s.size + (T.length - (min (T.length : Int) ((i : Int) + (r : Int))).toNat) := by omega
  go_upto_region 5 with fail
  go_region_law (first
    | (go_simp; go_at_call 15; refine (HW.out _).mono ?_; rintro e w6 ⟨rfl, rfl⟩)
    | (go_simp; go_at_call 3; refine (arith_walkB _ _ ?sz ?ex ?px).mono ?_; (case sz => rw [ByteArray.size_append, ByteArray.size_append, he1, ByteArray.size_extract]; omega); (case ex => exact (HX4.out _ (Below.refl _ w4).drew).1); (case px => exact (HX4.out _ (Below.refl _ w4).drew).2.1); rintro e w7 ⟨rfl, hb7⟩; have HB7 := Lib.hid (HB4.out.trans (((Below.refl _ w4).drew.trans hb7).mono HB4.out.size)); clear hb7))
  all_goals
    go_wp2_with fail
    go_ret
    exact ⟨rfl, HB7.out⟩

end Go.Proofs.YtiigclkebnmopaaGreatDoor
