/- Numbers by limbs in memory. -/
import Derived.Test.YthodlgjfmddemaaGreatDoorRkLaw
import Derived.Deep.OwnRows
import Derived.Deep.AppendLies
namespace Go.Proofs.YthodlgjfmddemaaGreatDoor.Rk
open Go.RowKit

theorem infoU32 : (Tryz.prog.info? 93).map (fun i => (i.zero, i.size, i.bytes)) = some (some (.int .u32 0), 1, 4) := by kernel_rfl
/-- v is a slice of m limbs, those of z -/
def RL (w : World) (v : Value) (m z : Nat) : Prop :=
  ∃ A c, v = .slice A m c ∧ m ≤ c ∧ (A = none → c = 0) ∧ (0 < m → ∃ b off, A = some ⟨b, off, none⟩ ∧ b < w.heap.size ∧ ∀ j, j < m → w.cell? ⟨b, off + j, none⟩ = some (.int .u32 (dg z j : Int)))
/-- v is the number x -/
def NL (w : World) (v : Value) (x : Nat) : Prop := RL w v (nl x) x
theorem RL.keep {w w' : World} {v : Value} {m z : Nat} (h : RL w v m z) (hb : Below w.heap.size w w') : RL w' v m z := by
  obtain ⟨A, c, rfl, hc, hA, h⟩ := h
  refine ⟨A, c, rfl, hc, hA, fun hn => ?_⟩
  obtain ⟨b, off, rfl, hlt, hcell⟩ := h hn
  exact ⟨b, off, rfl, Nat.lt_of_lt_of_le hlt hb.size, fun j hj => (hb.cell (p := ⟨b, off + j, none⟩) hlt).trans (hcell j hj)⟩
theorem NL.keep {w w' : World} {v : Value} {x : Nat} (h : NL w v x) (hb : Below w.heap.size w w') : NL w' v x := RL.keep h hb
theorem RL.congr {w : World} {v : Value} {m z y : Nat} (h : RL w v m z) (e : ∀ j, j < m → dg z j = dg y j) : RL w v m y := by
  obtain ⟨A, c, rfl, hc, hA, h⟩ := h
  refine ⟨A, c, rfl, hc, hA, fun hn => ?_⟩
  obtain ⟨b, off, rfl, hlt, hcell⟩ := h hn
  exact ⟨b, off, rfl, hlt, fun j hj => by rw [hcell j hj, e j hj]⟩
/-- a block of limbs of the call's own -/
def LB (w : World) (g m : Nat) (f : Nat → Nat) : Prop := w.rowIs g 93 m (fun j => .int .u32 (f j : Int))
theorem LB.congr {w : World} {g m : Nat} {f h : Nat → Nat} (hl : LB w g m f) (e : ∀ j, j < m → f j = h j) : LB w g m h := World.rowIs.congr hl fun j hj => by rw [e j hj]
theorem LB.set {w : World} {g m : Nat} {f : Nat → Nat} (h : LB w g m f) (i c : Nat) : LB (w.setCell ⟨g, i, none⟩ (.int .u32 (c : Int))) g m (up f i c) :=
  (World.rowIs.set h i _).congr fun j _ => by unfold up; split <;> rfl
theorem LB.drew {w : World} {g m : Nat} {f : Nat → Nat} (h : LB w g m f) : LB w.drew g m f := World.rowIs.drew h
theorem LB.like {w w' : World} {g m : Nat} {f : Nat → Nat} (h : LB w g m f) (e : w'.heap = w.heap) : LB w' g m f := World.rowIs.of_block h (by rw [e])
theorem LB.rl {w : World} {g m : Nat} {f : Nat → Nat} {z : Nat} (h : LB w g m f) (e : ∀ j, j < m → f j = dg z j) : RL w (.slice (some ⟨g, 0, none⟩) m m) m z :=
  ⟨_, m, rfl, Nat.le_refl _, fun h => (by cases h), fun _ => ⟨g, 0, rfl, World.rowIs.lt h, fun j hj => by rw [Nat.zero_add]; exact (World.rowIs.cell h hj).trans (by rw [e j hj])⟩⟩
theorem LB.below {w w' : World} {g m : Nat} {f : Nat → Nat} {B : Nat} (h : LB w g m f) (hb : Below B w w') (hg : g < B) : LB w' g m f := World.rowIs.of_block h (hb.block _ hg)
theorem RL.len {w : World} {A : Option Addr} {n c m z : Nat} (h : RL w (.slice A n c) m z) : n = m := by
  obtain ⟨_, _, e, _⟩ := h; injection e
theorem RL.trim {w : World} {A : Option Addr} {n c z : Nat} (h : RL w (.slice A (n + 1) c) (n + 1) z) : RL w (.slice A n c) n z := by
  obtain ⟨A', c', e, hc, hA, h⟩ := h
  injection e with e1 e2 e3
  subst e1 e3
  refine ⟨A, c, rfl, by omega, hA, fun hn => ?_⟩
  obtain ⟨b, off, rfl, hlt, hcell⟩ := h (by omega)
  exact ⟨b, off, rfl, hlt, fun j hj => hcell j (by omega)⟩
end Go.Proofs.YthodlgjfmddemaaGreatDoor.Rk
