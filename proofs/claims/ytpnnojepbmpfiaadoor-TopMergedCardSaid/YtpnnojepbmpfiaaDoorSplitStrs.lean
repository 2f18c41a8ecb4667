/- A slice of texts in memory, and their comparison (the part of Strs that SplitMatches needs). -/
import Derived.Test.YtpnnojepbmpfiaaDoorBase
import Derived.Test.YtpnnojepbmpfiaaDoorShelf
namespace Go.Proofs.YtpnnojepbmpfiaaDoor
open Go.RowKit

/-- v is a slice that reads as the texts l -/
def SL (w : World) (v : Value) (l : List ByteArray) : Prop :=
  ∃ A c, v = .slice A l.length c ∧ l.length ≤ c ∧ (0 < l.length → ∃ b off, A = some ⟨b, off, none⟩ ∧ b < w.heap.size ∧ ∀ j (h : j < l.length), w.cell? ⟨b, off + j, none⟩ = some (.string l[j]))
theorem SL.keep {w w' : World} {v : Value} {l : List ByteArray} (h : SL w v l) (hb : Below w.heap.size w w') : SL w' v l := by
  obtain ⟨A, c, rfl, hc, h⟩ := h
  refine ⟨A, c, rfl, hc, fun hn => ?_⟩
  obtain ⟨b, off, rfl, hlt, hcell⟩ := h hn
  exact ⟨b, off, rfl, Nat.lt_of_lt_of_le hlt hb.size, fun j hj => (hb.cell (p := ⟨b, off + j, none⟩) hlt).trans (hcell j hj)⟩
theorem SL.of_own {w : World} {base : Nat} {e : TypeId} {v : Value} {n : Nat} {l : List ByteArray} (h : w.ownsRow base e 1 v n (l.map Value.string)) : SL w v l := by
  have hn : l.length = n := by have := h.1; simpa using this
  subst hn
  rcases h.2 with ⟨rfl, h0⟩ | ⟨g, cap, cur, rfl, _, hh, hcap, _, _, ht⟩
  · exact ⟨none, 0, by rw [h0], by omega, fun hp => by omega⟩
  · refine ⟨_, cap, rfl, hcap, fun hp => ⟨g, 0, rfl, (h.lt g rfl).2, fun j hj => ?_⟩⟩
    have := h.cells (g := g) rfl j (.string l[j]) (by simp [hj])
    rwa [WideShapes.add_plain] at this

theorem SL.len {w : World} {A : Option Addr} {n c : Nat} {l : List ByteArray} (h : SL w (.slice A n c) l) : n = l.length := by
  obtain ⟨_, _, e, _⟩ := h; injection e

theorem equal_any (l m : List ByteArray) (v u : Value) (w : World) (hv : SL w v l) (hu : SL w u m) (hn : l.length ≤ 9223372036854775807) :
    Calls Tryd.prog 6 #[v, u] w fun e w' => e = .returned (.bool (decide (l = m))) ∧ Below w.heap.size w w' := by
  obtain ⟨A, c, rfl, _, h⟩ := hv
  obtain ⟨B, d, rfl, _, h2⟩ := hu
  by_cases hlm : l.length = m.length
  · by_cases h0 : 0 < l.length
    · obtain ⟨b, off, rfl, _, hcell⟩ := h h0
      obtain ⟨b2, off2, rfl, _, hcell2⟩ := h2 (by omega)
      exact (Tryd.slices_Equal_string b off l.length c b2 off2 m.length d l m w (Nat.le_refl _) (Nat.le_refl _) hn (by omega) (fun j hj => by rw [hcell j hj]; simp [hj]) (fun j hj => by rw [hcell2 j hj]; simp [hj])).mono
        fun e w' ⟨he, q, hw⟩ => ⟨by rw [he, List.take_length, List.take_length], by rw [hw]; exact below_drewN (Below.refl _ _) q⟩
    · obtain rfl : l = [] := List.length_eq_zero_iff.1 (by omega)
      obtain rfl : m = [] := List.length_eq_zero_iff.1 (by omega)
      exact (Tryd.slices_Equal_string_empty A B c 0 d w (by omega)).mono fun e w' ⟨he, hw⟩ => ⟨by rw [he]; rfl, hw ▸ Below.refl _ _⟩
  · exact (Tryd.slices_Equal_string_lens A B l.length c m.length d w hlm).mono fun e w' ⟨he, hw⟩ => ⟨by rw [he, decide_eq_false (fun e => hlm (by rw [e]))], hw ▸ Below.refl _ _⟩

end Go.Proofs.YtpnnojepbmpfiaaDoor
