/- Slices of numbers; what Rows hands back. -/
import Derived.Test.YtokmiommhfbkeaaGreatDoorRowsOf
namespace Go.Proofs.YtokmiommhfbkeaaGreatDoor
open Go.RowKit

/-- v is a slice that reads as the numbers l -/
def IL (w : World) (v : Value) (l : List Int) : Prop :=
  ∃ A c, v = .slice A l.length c ∧ l.length ≤ c ∧ (0 < l.length → ∃ b off, A = some ⟨b, off, none⟩ ∧ b < w.heap.size ∧ ∀ j (h : j < l.length), w.cell? ⟨b, off + j, none⟩ = some (.int .i64 l[j]))
theorem IL.keep {w w' : World} {v : Value} {l : List Int} (h : IL w v l) (hb : Below w.heap.size w w') : IL w' v l := by
  obtain ⟨A, c, rfl, hc, h⟩ := h
  refine ⟨A, c, rfl, hc, fun hn => ?_⟩
  obtain ⟨b, off, rfl, hlt, hcell⟩ := h hn
  exact ⟨b, off, rfl, Nat.lt_of_lt_of_le hlt hb.size, fun j hj => (hb.cell (p := ⟨b, off + j, none⟩) hlt).trans (hcell j hj)⟩
theorem IL.of_own {w : World} {base : Nat} {e : TypeId} {v : Value} {n : Nat} {l : List Int} (h : w.ownsRow base e 1 v n (l.map (Value.int .i64))) : IL w v l := by
  have hn : l.length = n := by have := h.1; simpa using this
  subst hn
  rcases h.2 with ⟨rfl, h0⟩ | ⟨g, cap, cur, rfl, _, hh, hcap, _, _, ht⟩
  · exact ⟨none, 0, by rw [h0], by omega, fun hp => by omega⟩
  · refine ⟨_, cap, rfl, hcap, fun hp => ⟨g, 0, rfl, (h.lt g rfl).2, fun j hj => ?_⟩⟩
    have := h.cells (g := g) rfl j (.int .i64 l[j]) (by simp [hj])
    rwa [WideShapes.add_plain] at this

/-- what Rows hands back -/
def RowsT (w : World) (x : St) (n : Int) (e : Ending) (w' : World) : Prop :=
  Below w.heap.size w w' ∧ ∃ v1 v2, e = .returned (.tuple #[v1, v2, .int .i64 n]) ∧ SL w' v1 x.1 ∧ IL w' v2 x.2.1

theorem rowsL_none {s : ByteArray} {wide : Int} (h : rowsE s wide ≠ 0) : rowsL s wide = ([], [], []) := by unfold rowsL; rw [if_neg h]
theorem nil_SL (w : World) : SL w (.slice none 0 0) [] := ⟨none, 0, rfl, Nat.le_refl _, fun h => by simp at h⟩
theorem nil_IL (w : World) : IL w (.slice none 0 0) [] := ⟨none, 0, rfl, Nat.le_refl _, fun h => by simp at h⟩

end Go.Proofs.YtokmiommhfbkeaaGreatDoor
