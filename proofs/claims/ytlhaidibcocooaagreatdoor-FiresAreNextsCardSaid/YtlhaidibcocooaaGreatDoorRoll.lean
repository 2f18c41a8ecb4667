/- The law's dice: a roll is a number below n. -/
import Derived.Test.YtlhaidibcocooaaGreatDoorOnly
import Derived.Laws.OwnMore
import Derived.IntWalk
import Derived.Deep.QuietTactic
import Derived.StillTailTactics
import Derived.Deep.DeepCutAuto
namespace Go.Proofs.YtlhaidibcocooaaGreatDoor
open Go.RowKit

theorem tmod_lt' (n m : Int) (h : 0 < m) : -m < n.tmod m ∧ n.tmod m < m := by
  have h1 := Int.tmod_lt_of_pos n h
  have h2 := Int.lt_tmod_of_pos n h
  exact ⟨h2, h1⟩
/-- a number between 0 and high -/
def pw (n high : Int) : Int := n.tmod (high + 1) % (high + 1)
theorem pw_range (n high : Int) (h : 0 ≤ high) : 0 ≤ pw n high ∧ pw n high ≤ high := by
  unfold pw
  have a1 := Int.emod_nonneg (n.tmod (high + 1)) (show high + 1 ≠ 0 by omega)
  have a2 := Int.emod_lt_of_pos (n.tmod (high + 1)) (show 0 < high + 1 by omega)
  omega
set_option maxHeartbeats 800000 in
theorem pwithin_det (n high : Int) (w : World) (h0 : 0 ≤ high) (h1 : high ≤ 1000000) :
    Calls Tryz.prog 12 #[.int .i64 n, .int .i64 0, .int .i64 high] w fun e w' => e = .returned (.int .i64 (pw n high)) ∧ w = w' := by
  have HP := Lib.hid (show pw n high = n.tmod (high + 1) % (high + 1) from rfl)
  have HR := Lib.hid (pw_range n high h0)
  generalize pw n high = r at *
  obtain ⟨m, hm⟩ : ∃ m, high + 1 = m := ⟨_, rfl⟩
  rw [hm] at HP
  have hz : (m == 0) = false := by rw [beq_eq_false_iff_ne]; omega
  have ht := tmod_lt' n m (by omega)
  have hm0 : 0 < m := by omega
  have hm1 : m ≤ 1000001 := by omega
  go_enter Tryz.func12, Tryz.ntmps12
  go_wp2
  go_ret
  have a1 := Int.emod_nonneg (n.tmod m) (show m ≠ 0 by omega)
  have a2 := Int.emod_lt_of_pos (n.tmod m) hm0
  have hw : wrap64 (n.tmod m % m) = n.tmod m % m := by unfold wrap64; omega
  exact ⟨ret_int (by rw [hw, HP.out]), rfl⟩


/-- the law's dice, in their box; what they are read from -/
structure DW (w : World) (b : Nat) (A : Option Addr) (n c : Nat) (i left : Int) : Prop where
  box : w.heap[b]? = some (.cells #[.slice A n c, .int .i64 i, .int .i64 left] 129 (0, 0))
  raw : 0 < n → ∃ g off, A = some ⟨g, off, none⟩ ∧ g < w.heap.size ∧ g ≠ b ∧ ∀ j, j < n → ∃ x : Int, w.cell? ⟨g, off + j, none⟩ = some (.int .i64 x)
  cap : n ≤ c
theorem DW.only {w w' : World} {b : Nat} {A : Option Addr} {n c : Nat} {i left i' left' : Int} (h : DW w b A n c i left) (ho : Only b w w') (hb : w'.heap[b]? = some (.cells #[.slice A n c, .int .i64 i', .int .i64 left'] 129 (0, 0))) : DW w' b A n c i' left' := by
  refine ⟨hb, fun hn => ?_, h.cap⟩
  obtain ⟨g, off, rfl, hg, hgb, hx⟩ := h.raw hn
  refine ⟨g, off, rfl, Nat.lt_of_lt_of_le hg ho.size, hgb, fun j hj => ?_⟩
  obtain ⟨x, hx⟩ := hx j hj
  exact ⟨x, (World.cell?_of_block (a := ⟨g, off + j, none⟩) (ho.block g hg hgb)).trans hx⟩

set_option maxRecDepth 100000 in
set_option maxHeartbeats 1600000 in
theorem roll_any (b : Nat) (A : Option Addr) (n c : Nat) (i left : Int) (m : Int) (w : World) (h : DW w b A n c i left) (hn : n ≤ 9223372036854775807) (hi : 0 ≤ i) (hi2 : i ≤ 4611686018427387904) (h1 : 1 ≤ m) (h2 : m ≤ 1000000) :
    Calls Tryz.prog 34 #[.pointer (some ⟨b, 0, none⟩), .int .i64 m] w fun e w' => ∃ r i' : Int, e = .returned (.int .i64 r) ∧ 0 ≤ r ∧ r < m ∧ i ≤ i' ∧ i' ≤ i + 1 ∧ DW w' b A n c i' left ∧ Only b w w' := by
  have HD := Lib.hid h
  have c0 : ∀ j, w.cell? ⟨b, j, none⟩ = #[Value.slice A n c, .int .i64 i, .int .i64 left][j]? := fun j => by simp [World.cell?, h.box]
  have z0 : ∀ j, w.frozen? ⟨b, j, none⟩ = false := fun j => by simp [World.frozen?, h.box]
  by_cases h0 : n = 0
  · subst h0
    clear h
    go_enter Tryz.func34, Tryz.ntmps34
    go_wp2_with fail
    go_ret
    exact ⟨0, i, rfl, Int.le_refl _, by omega, Int.le_refl _, by omega, HD.out, Only.refl _ _⟩
  · obtain ⟨g, off, rfl, hg, hgb, hx⟩ := h.raw (by omega)
    have hmod : 0 ≤ i % (n : Int) ∧ i % (n : Int) < n := ⟨Int.emod_nonneg _ (by omega), Int.emod_lt_of_pos _ (by omega)⟩
    have htm : i.tmod (n : Int) = i % (n : Int) := Int.tmod_eq_emod_of_nonneg hi
    obtain ⟨x, hx⟩ := hx (i % (n : Int)).toNat (by omega)
    have hz : ((n : Int) == 0) = false := by rw [beq_eq_false_iff_ne]; omega
    have hlt : (i % (n : Int)) < (n : Int) := hmod.2
    have hge : 0 ≤ i % (n : Int) := hmod.1
    clear h hmod
    go_enter Tryz.func34, Tryz.ntmps34
    go_upto_region 3 with fail
    go_quiet (fail)
    have HD2 : Hid (DW (w.drewN nq) b (some ⟨g, off, none⟩) n c i left) := Lib.hid (HD.out.only ((Only.refl b w).drewN nq) HD.out.box)
    have HO2 : Hid (Only b w (w.drewN nq)) := Lib.hid ((Only.refl b w).drewN nq)
    clear c0 z0 hx hg
    generalize w.drewN nq = w2 at *
    generalize IntKind.i64.wrap (x + IntKind.i64.wrap (i.tdiv (n : Int))) = xv at *
    have c2 : ∀ j, w2.cell? ⟨b, j, none⟩ = #[Value.slice (some ⟨g, off, none⟩) n c, .int .i64 i, .int .i64 left][j]? := fun j => by simp [World.cell?, HD2.out.box]
    have z2 : ∀ j, w2.frozen? ⟨b, j, none⟩ = false := fun j => by simp [World.frozen?, HD2.out.box]
    have e1 : IntKind.i64.wrap (i + 1) = i + 1 := IntWalk.i64_in _ (by omega)
    have HR := Lib.hid (pw_range xv (m - 1) (by omega))
    have HW := Lib.hid (fun W => pwithin_det xv (m - 1) W (by omega) (by omega))
    have hO3 := HO2.out.setCell (i := 1) (.int .i64 (i + 1))
    have HO3 := Lib.hid hO3
    have HD3 := Lib.hid (show DW (w2.setCell ⟨b, 1, none⟩ (.int .i64 (i + 1))) b (some ⟨g, off, none⟩) n c (i + 1) left from HD2.out.only ((Only.refl b w2).setCell (.int .i64 (i + 1))) (by rw [heap_setCell_same _ _ _ _ _ _ HD2.out.box]; rfl))
    clear hO3
    go_wp2_with fail
    refine (HW.out _).mono ?_
    rintro e w3 ⟨rfl, hw3⟩
    subst hw3
    go_wp2_with fail
    go_ret
    exact ⟨pw xv (m - 1), i + 1, rfl, HR.out.1, by have := HR.out.2; omega, by omega, by omega, HD3.out, HO3.out⟩

end Go.Proofs.YtlhaidibcocooaaGreatDoor
