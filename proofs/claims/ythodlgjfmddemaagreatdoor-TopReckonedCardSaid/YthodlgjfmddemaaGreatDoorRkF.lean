/- Numbers by limbs: the division. -/
import Derived.Test.YthodlgjfmddemaaGreatDoorRkE
import Derived.Deep.RegionWith
namespace Go.Proofs.YthodlgjfmddemaaGreatDoor.Rk
open Go.RowKit

theorem below_of_drewN {w w1 : World} {q : Nat} (h : w1 = w.drewN q) : Below w.heap.size w w1 := by
  subst h
  exact below_drewN (Below.refl _ _) q
theorem NL.zero (w : World) : NL w (.slice none 0 0) 0 := by
  unfold NL
  rw [nl_zero]
  exact ⟨none, 0, rfl, Nat.le_refl _, fun _ => rfl, fun h => absurd h (Nat.lt_irrefl _)⟩
def DivP (x y : Nat) (w : World) (e : Ending) (w' : World) : Prop := ∃ q r, e = .returned (.tuple #[q, r]) ∧ NL w' q (x / y) ∧ NL w' r (x % y) ∧ Below w.heap.size w w'
set_option maxRecDepth 100000 in
set_option maxHeartbeats 1600000 in
theorem divide_less (u v : Value) (x y : Nat) (w : World) (hu : NL w u x) (hv : NL w v y) (hx : nl x ≤ 100000) (hy : nl y ≤ 100000) (hlt : x < y) :
    Calls Tryz.prog 51 #[u, v] w (DivP x y w) := by
  obtain ⟨Q, hQ⟩ : ∃ Q, DivP x y w = Q := ⟨_, rfl⟩
  rw [hQ]
  have HQ := Lib.hid hQ
  have HU := Lib.hid hu
  have HV := Lib.hid hv
  clear hQ hu hv
  go_enter Tryz.func51, Tryz.ntmps51
  go_wp2_with fail
  refine (compare_any _ _ x y _ HU.out HV.out (by omega) (by omega)).mono ?_
  rintro e w1 ⟨k, q, rfl, hk1, hk2, hw1⟩
  have hk := hk1.2 hlt
  have hb := below_of_drewN hw1
  have HF := Lib.hid (show DivP x y w (.returned (.tuple #[.slice none 0 0, u])) w1 from ⟨_, _, rfl, by rw [Nat.div_eq_of_lt hlt]; exact NL.zero _, by rw [Nat.mod_eq_of_lt hlt]; exact HU.out.keep hb, hb⟩)
  clear hk1 hk2 hw1 hb
  go_wp2_with fail
  rw [← HQ.out]
  exact HF.out
theorem RL.one (w : World) (r : Nat) (h : r < Bq) : RL (w.alloc (.cells #[.int .u32 (r : Int)] 93)) (.slice (some ⟨w.heap.size, 0, none⟩) 1 1) 1 r := by
  refine ⟨_, 1, rfl, Nat.le_refl _, fun h => (by cases h), fun _ => ⟨w.heap.size, 0, rfl, by simp, fun j hj => ?_⟩⟩
  obtain rfl : j = 0 := by omega
  have : dg r 0 = r := by unfold dg; rw [Nat.pow_zero, Nat.div_one, Nat.mod_eq_of_lt h]
  rw [this]
  exact cell_of_row _ w.heap.size 0 _ _ (0, 0) (heap_alloc_new _ _)
set_option maxRecDepth 100000 in
set_option maxHeartbeats 1600000 in
theorem divide_one (u v : Value) (x y : Nat) (w : World) (hu : NL w u x) (hv : NL w v y) (hx : nl x ≤ 100000) (hy : nl y = 1) (hle : y ≤ x) :
    Calls Tryz.prog 51 #[u, v] w (DivP x y w) := by
  obtain ⟨Q, hQ⟩ : ∃ Q, DivP x y w = Q := ⟨_, rfl⟩
  rw [hQ]
  have HQ := Lib.hid hQ
  have HU := Lib.hid hu
  have HV := Lib.hid hv
  have hyB : y < Bq := by
    have := lt_nl y
    rw [hy, Nat.pow_one] at this
    exact this
  have hy0 : 0 < y := by
    rcases Nat.eq_zero_or_pos y with h | h
    · rw [h, nl_zero] at hy; omega
    · exact h
  have hd0 : dg y 0 = y := by unfold dg; rw [Nat.pow_zero, Nat.div_one, Nat.mod_eq_of_lt hyB]
  obtain ⟨A, c, rfl, _, _⟩ := RL.form hv
  obtain ⟨b, off, rfl, hbb, hcell⟩ := RL.at (A := A) (n := nl y) (c := c) hv (i := 0) (by omega)
  rw [hd0, Nat.add_zero] at hcell
  rw [hy] at HV ⊢
  clear hQ hu hv
  go_enter Tryz.func51, Tryz.ntmps51
  go_wp2_with fail
  refine (compare_any _ _ x y _ HU.out HV.out (by omega) (by rw [hy]; omega)).mono ?_
  rintro e w1 ⟨k, q, rfl, hk1, hk2, hw1⟩
  have hk : ¬ k < 0 := fun h => by have := hk1.1 h; omega
  have hb := below_of_drewN hw1
  have HU1 := Lib.hid (HU.out.keep hb)
  have hc1 : w1.cell? ⟨b, off, none⟩ = _ := (hb.cell (p := ⟨b, off, none⟩) hbb).trans hcell
  have HB := Lib.hid hb
  clear hk1 hk2 hw1 hb hcell hy
  go_wp2_with fail
  refine (short_any _ x y _ HU1.out (by omega) hy0 (by omega)).mono ?_
  rintro e w2 ⟨uq, rfl, hq, hb2⟩
  have hr := Nat.mod_lt x hy0
  have HQq := Lib.hid hq
  have HB2 := Lib.hid (HB.out.trans (hb2.mono HB.out.size))
  obtain ⟨r, hrr⟩ : ∃ r, r = x % y := ⟨_, rfl⟩
  rw [← hrr] at hr ⊢
  have HRR := Lib.hid hrr
  have HR1 := Lib.hid (RL.one w2 r (by omega))
  have HR2 := Lib.hid (show r < Bq ^ 1 by rw [Nat.pow_one]; omega)
  clear hq hb2 hrr hc1
  go_wp2_with (go_at_call 63; refine (trimmed_any _ 1 1 r _ HR1.out HR2.out (by decide)).mono ?_; rintro e w' ⟨rfl, rfl⟩)
  rw [← HQ.out]
  exact ⟨_, _, rfl, HQq.out.keep ((Below.refl _ _).alloc (Nat.le_refl _) _), HRR.out ▸ NL.trimmed HR1.out HR2.out, HB2.out.alloc (HB2.out.size) _⟩
end Go.Proofs.YthodlgjfmddemaaGreatDoor.Rk
