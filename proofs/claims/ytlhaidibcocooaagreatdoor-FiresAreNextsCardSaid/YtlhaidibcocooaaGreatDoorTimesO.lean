/- Times, the reference: the five fields. (Begun; see NOTES.md.) -/
import Derived.Test.YtlhaidibcocooaaGreatDoorTimesN
namespace Go.Proofs.YtlhaidibcocooaaGreatDoor
open Go.RowKit

def tfCells (g1 g2 : Nat) : Array Value := #[.int .i64 0, .int .i64 59, .slice none 0 0, .int .i64 0, .int .i64 23, .slice none 0 0, .int .i64 1, .int .i64 31, .slice none 0 0, .int .i64 1, .int .i64 12, .slice (some ⟨g1, 0, none⟩) 12 12, .int .i64 0, .int .i64 7, .slice (some ⟨g2, 0, none⟩) 7 7]
/-- the five fields in memory -/
structure TF (w : World) (g g1 g2 : Nat) : Prop where
  cells : ∀ j, w.cell? ⟨g, j, none⟩ = (tfCells g1 g2)[j]?
  lt : g < w.heap.size
  months : NmAt w (.slice (some ⟨g1, 0, none⟩) 12 12)
  days : NmAt w (.slice (some ⟨g2, 0, none⟩) 7 7)
theorem nm_none (w : World) : NmAt w (.slice none 0 0) := ⟨none, 0, [], rfl, by decide, fun h => by simp at h, fun k _ => rfl, .inl rfl⟩
theorem TF.keep {w w' : World} {g g1 g2 : Nat} (h : TF w g g1 g2) (hb : Below w.heap.size w w') : TF w' g g1 g2 :=
  ⟨fun j => (hb.cell (p := ⟨g, j, none⟩) h.lt).trans (h.cells j), Nat.lt_of_lt_of_le h.lt hb.size, h.months.keep hb, h.days.keep hb⟩
theorem nm_lit {w w' : World} {L : List ByteArray} {T : TypeId} (hb : Below (w.alloc (.cells (L.map Value.string).toArray T)).heap.size (w.alloc (.cells (L.map Value.string).toArray T)) w') (hl : L.length ≤ 100) (hi : ∀ k, k < 100 → Lib.idxOfS L ⟨(Lib.decDigits k).toArray⟩ = -1) (hL : L = monthsL ∨ L = daysL) : NmAt w' (.slice (some ⟨w.heap.size, 0, none⟩) L.length L.length) := by
  refine NmAt.keep (w := w.alloc (.cells (L.map Value.string).toArray T)) ⟨_, _, L, rfl, hl, fun hn => ⟨w.heap.size, 0, rfl, by simp, fun j hj => ?_⟩, hi, .inr hL⟩ hb
  rw [Nat.zero_add, box_cell]
  simp [hj]

theorem tf_start (w : World) (T U : TypeId) : TF (((w.alloc (.cells (monthsL.map Value.string).toArray T)).alloc (.cells (daysL.map Value.string).toArray T)).alloc (.cells (tfCells w.heap.size (w.heap.size + 1)) U)) (w.heap.size + 1 + 1) w.heap.size (w.heap.size + 1) ∧ Below w.heap.size w (((w.alloc (.cells (monthsL.map Value.string).toArray T)).alloc (.cells (daysL.map Value.string).toArray T)).alloc (.cells (tfCells w.heap.size (w.heap.size + 1)) U)) := by
  have b1 := (Below.refl w.heap.size w).alloc (Nat.le_refl _) (.cells (monthsL.map Value.string).toArray T)
  have b2 := (Below.refl _ (w.alloc (.cells (monthsL.map Value.string).toArray T))).alloc (Nat.le_refl _) (.cells (daysL.map Value.string).toArray T)
  have b3 := (Below.refl _ ((w.alloc (.cells (monthsL.map Value.string).toArray T)).alloc (.cells (daysL.map Value.string).toArray T))).alloc (Nat.le_refl _) (.cells (tfCells w.heap.size (w.heap.size + 1)) U)
  have s1 : (w.alloc (.cells (monthsL.map Value.string).toArray T)).heap.size = w.heap.size + 1 := by simp
  have s2 : ((w.alloc (.cells (monthsL.map Value.string).toArray T)).alloc (.cells (daysL.map Value.string).toArray T)).heap.size = w.heap.size + 1 + 1 := by simp
  refine ⟨⟨fun j => ?_, by simp, ?_, ?_⟩, (b1.trans (b2.mono b1.size)).trans (b3.mono (by simp; omega))⟩
  · have := box_cell ((w.alloc (.cells (monthsL.map Value.string).toArray T)).alloc (.cells (daysL.map Value.string).toArray T)) (tfCells w.heap.size (w.heap.size + 1)) U j
    rw [s2] at this
    exact this
  · exact nm_lit (L := monthsL) (T := T) (b2.trans (b3.mono b2.size)) (by decide) (fun k hk => (idx_ok hk).1) (.inl rfl)
  · have := nm_lit (L := daysL) (T := T) (w := w.alloc (.cells (monthsL.map Value.string).toArray T)) b3 (by decide) (fun k hk => (idx_ok hk).2) (.inr rfl)
    rw [s1] at this
    exact this
set_option maxRecDepth 100000 in
set_option maxHeartbeats 1600000 in
theorem tFields_any (w : World) : Calls Tryz.prog 28 #[] w fun e w' => ∃ g g1 g2, e = .returned (.slice (some ⟨g, 0, none⟩) 5 5) ∧ TF w' g g1 g2 ∧ Below w.heap.size w w' ∧ w.heap.size ≤ g ∧ w.heap.size ≤ g1 ∧ w.heap.size ≤ g2 := by
  go_enter Tryz.func28, Tryz.ntmps28
  go_wp2_with fail
  refine bodyPost_ret (v := .slice (some ⟨w.heap.size + 1 + 1, 0, none⟩) 5 5) (by simp [results, Tryz.results28, go_sem]) rfl ⟨_, _, _, rfl, (tf_start w _ _).1, (tf_start w _ _).2, by omega, by omega, by omega⟩

end Go.Proofs.YtlhaidibcocooaaGreatDoor
