/- build.Rows hands back the rows and the numbers, for every text below 4 GiB; slices of numbers, and when two are equal. -/
import Derived.Test.YtokmiommhfbkeaaDoorRowsOf
namespace Go.Proofs.YtokmiommhfbkeaaDoor
open Go.RowKit

/-- v is a slice that reads as the numbers l -/
def IL (w : World) (v : Value) (l : List Int) : Prop :=
  ∃ A c, v = .slice A l.length c ∧ l.length ≤ c ∧ (0 < l.length → ∃ b off, A = some ⟨b, off, none⟩ ∧ b < w.heap.size ∧ ∀ j (h : j < l.length), w.cell? ⟨b, off + j, none⟩ = some (.int .i64 l[j]))
theorem IL.keep {w w' : World} {v : Value} {l : List Int} (h : IL w v l) (hb : Below w.heap.size w w') : IL w' v l := by
  obtain ⟨A, c, rfl, hc, h⟩ := h
  refine ⟨A, c, rfl, hc, fun hn => ?_⟩
  obtain ⟨b, off, rfl, hlt, hcell⟩ := h hn
  exact ⟨b, off, rfl, Nat.lt_of_lt_of_le hlt hb.size, fun j hj => (hb.cell (p := ⟨b, off + j, none⟩) hlt).trans (hcell j hj)⟩
theorem IL.of_own {w : World} {base : Nat} {e : TypeId} {v : Value} {n : Nat} {l : List Int} (h : w.ownsRow base e 1 v n (l.map (Value.int .i64))) : IL w v l := by
  have hn : l.length = n := by have := h.1; simpa using this
  subst hn
  rcases h.2 with ⟨rfl, h0⟩ | ⟨g, cap, cur, rfl, _, hh, hcap, _, _, ht⟩
  · exact ⟨none, 0, by rw [h0], by omega, fun hp => by omega⟩
  · refine ⟨_, cap, rfl, hcap, fun hp => ⟨g, 0, rfl, (h.lt g rfl).2, fun j hj => ?_⟩⟩
    have := h.cells (g := g) rfl j (.int .i64 l[j]) (by simp [hj])
    rwa [WideShapes.add_plain] at this

theorem equalInt_any (l m : List Int) (v u : Value) (w : World) (hv : IL w v l) (hu : IL w u m) (hn : l.length ≤ 9223372036854775807) :
    Calls Tryd.prog 18 #[v, u] w fun e w' => e = .returned (.bool (decide (l = m))) ∧ Below w.heap.size w w' := by
  obtain ⟨A, c, rfl, _, h⟩ := hv
  obtain ⟨B, d, rfl, _, h2⟩ := hu
  by_cases hlm : l.length = m.length
  · by_cases h0 : 0 < l.length
    · obtain ⟨b, off, rfl, _, hcell⟩ := h h0
      obtain ⟨b2, off2, rfl, _, hcell2⟩ := h2 (by omega)
      exact (Tryd.slices_Equal_int b off l.length c b2 off2 m.length d l m w (Nat.le_refl _) (Nat.le_refl _) hn (by omega) (fun j hj => by rw [hcell j hj]; simp [hj]) (fun j hj => by rw [hcell2 j hj]; simp [hj])).mono
        fun e w' ⟨he, q, hw⟩ => ⟨by rw [he, List.take_length, List.take_length]; exact ret_bool (by rw [Bool.eq_iff_iff]; simp), by rw [hw]; exact below_drewN (Below.refl _ _) q⟩
    · obtain rfl : l = [] := List.length_eq_zero_iff.1 (by omega)
      obtain rfl : m = [] := List.length_eq_zero_iff.1 (by omega)
      exact (Tryd.slices_Equal_int_empty A B c 0 d w (by omega)).mono fun e w' ⟨he, hw⟩ => ⟨by rw [he]; rfl, hw ▸ Below.refl _ _⟩
  · exact (Tryd.slices_Equal_int_lens A B l.length c m.length d w hlm).mono fun e w' ⟨he, hw⟩ => ⟨by rw [he, decide_eq_false (fun e => hlm (by rw [e]))], hw ▸ Below.refl _ _⟩

/-- what Rows hands back -/
def RowsT (w : World) (x : St) (n : Int) (e : Ending) (w' : World) : Prop :=
  Below w.heap.size w w' ∧ ∃ v1 v2, e = .returned (.tuple #[v1, v2, .int .i64 n]) ∧ SL w' v1 x.1 ∧ IL w' v2 x.2.1

theorem rowsL_none {s : ByteArray} {wide : Int} (h : rowsE s wide ≠ 0) : rowsL s wide = ([], [], []) := by unfold rowsL; rw [if_neg h]
theorem nil_SL (w : World) : SL w (.slice none 0 0) [] := ⟨none, 0, rfl, Nat.le_refl _, fun h => by simp at h⟩
theorem nil_IL (w : World) : IL w (.slice none 0 0) [] := ⟨none, 0, rfl, Nat.le_refl _, fun h => by simp at h⟩

set_option maxRecDepth 100000 in
set_option maxHeartbeats 1600000 in
theorem rows_any (s : ByteArray) (wide : Int) (w : World) (hx : MX w) (hd : Deb w) (hs : s.size < 4294967281) :
    Calls Tryd.prog 16 #[.string s, .int .i64 wide] w (RowsT w (rowsL s wide) (rowsE s wide)) := by
  have hR := Lib.hid (rowsOf_any s wide w hx hd hs)
  have h0 := fun h => rowsL_none (s := s) (wide := wide) h
  generalize rowsL s wide = x at *
  generalize rowsE s wide = n at *
  by_cases hn : n = 0
  · subst hn
    go_enter Tryd.func16, Tryd.ntmps16
    go_wp2_with fail
    refine hR.out.mono ?_
    rintro e w1 ⟨hb, ⟨h1, _⟩ | ⟨_, b, rfl, hrw⟩⟩
    · exact absurd rfl h1
    · have HB := Lib.hid hb
      obtain ⟨hBb, v1, v2, hk, o1, o2⟩ := hrw
      have S1 := Lib.hid (SL.of_own o1)
      have S2 := Lib.hid (IL.of_own o2)
      have cc : ∀ j, w1.cell? ⟨b, j, none⟩ = #[Value.int .i64 wide, v1, v2, Value.string ⟨x.2.2.toArray⟩][j]? := fun j => by simp [World.cell?, hk]
      clear hk o1 o2 hb h0 hR
      go_wp2_with fail
      go_quiet (fail)
      go_wp2_with fail
      go_ret3
      exact ⟨below_drewN HB.out _, _, _, rfl, S1.out, S2.out⟩
  · have hne : (n == 0) = false := by rw [beq_eq_false_iff_ne]; exact hn
    rw [h0 hn]
    go_enter Tryd.func16, Tryd.ntmps16
    go_wp2_with fail
    refine hR.out.mono ?_
    rintro e w1 ⟨hb, ⟨_, rfl⟩ | ⟨h1, _⟩⟩
    · clear hR h0
      go_wp2
      go_ret3
      exact ⟨hb, _, _, rfl, nil_SL _, nil_IL _⟩
    · exact absurd h1 hn

end Go.Proofs.YtokmiommhfbkeaaDoor
