/- QuoteIsConst: the constant of a word of plain pieces. -/
import Derived.Test.YtonejkomggpbbabGreatDoorQtMem
import Derived.Test.YtonejkomggpbbabGreatDoorConstP
namespace Go.Proofs.YtonejkomggpbbabGreatDoor
open Go.RowKit Go.Shelf

def pcQ (p : KT) : PC := ⟨p.1, toB p.2, []⟩
theorem toB_app (a b : List UInt8) : toB a ++ toB b = toB (a ++ b) := by
  apply ByteArray.ext
  simp [toB]
theorem constL_plain : ∀ (L : List KT) (acc : List UInt8), kindQ L → constL (toB acc) (L.map pcQ) = (toB (acc ++ catQ L), true)
  | [], acc, _ => by simp [constL, catQ]
  | p :: L, acc, h => by
    have hp := h p (by simp)
    have ih := constL_plain L (acc ++ p.2) (fun q hq => h q (by simp [hq]))
    rw [List.map_cons, constL, if_pos (by unfold pcQ; omega)]
    show constL (toB acc ++ toB p.2) (L.map pcQ) = _
    rw [toB_app, ih]
    simp [catQ]
theorem totL_plain : ∀ (L : List KT), totL (L.map pcQ) = (catQ L).length
  | [] => rfl
  | p :: L => by
    rw [List.map_cons, totL, totL_plain L]
    show (toB p.2).size + 0 + _ = _
    rw [toB_size]
    simp [catQ]
theorem wm_plain {B : Nat} {v : Value} {L : List KT} {w : World} (h : w.ownsRow B 68 6 v L.length (rowQ L)) : WM w v (L.map pcQ) := by
  by_cases h0 : L.length = 0
  · rcases h.2 with ⟨rfl, _⟩ | ⟨g, cap, cur, rfl, _⟩
    · exact ⟨none, 0, by rw [List.length_map, h0], fun hp => by rw [List.length_map] at hp; omega⟩
    · exact ⟨_, cap, by rw [List.length_map], fun hp => by rw [List.length_map] at hp; omega⟩
  · have h2 := h
    rcases h.2 with ⟨_, hn⟩ | ⟨g, cap, cur, rfl, _, hg, _⟩
    · exact absurd hn h0
    · refine ⟨_, cap, by rw [List.length_map], fun _ => ⟨g, 0, rfl, (Array.getElem?_eq_some_iff.1 hg).1, fun j hj => ?_⟩⟩
      rw [List.length_map] at hj
      rw [List.getElem_map]
      have hc : ∀ i, i < 6 → w.cell? ⟨g, 0 + j * 6 + i, none⟩ = (pcV L[j])[i]? := fun i hi => by
        rw [Nat.zero_add, h2.cellAt (j * 6 + i) (by omega)]
        exact rowQ_at L j i hj hi
      exact ⟨.slice none 0 0, ⟨none, none, none, hc 0 (by decide), hc 1 (by decide), hc 2 (by decide), hc 3 (by decide), hc 4 (by decide), hc 5 (by decide)⟩, ⟨none, 0, rfl, fun hp => absurd hp (by simp [pcQ])⟩⟩
theorem constQ_any (L : List KT) (v : Value) (B : Nat) (w : World) (h : w.ownsRow B 68 6 v L.length (rowQ L)) (hk : kindQ L) (hn : L.length ≤ 1000000) (ht : (catQ L).length ≤ 1000000000) :
    Calls Tryz.prog 9 #[v] w fun e w' => e = .returned (.tuple #[.string (toB (catQ L)), .bool true]) ∧ Below w.heap.size w w' := by
  refine (const_any (L.map pcQ) v w (wm_plain h) (by rw [List.length_map]; exact hn) (by rw [totL_plain]; exact ht) (fun p hp => ?_)).mono ?_
  · obtain ⟨q, _, rfl⟩ := List.mem_map.1 hp
    simp [pcQ]
  · rintro e w' ⟨rfl, hb⟩
    refine ⟨?_, hb⟩
    have := constL_plain L [] hk
    rw [show toB [] = ⟨#[]⟩ from rfl] at this
    rw [this]
    rfl
end Go.Proofs.YtonejkomggpbbabGreatDoor
