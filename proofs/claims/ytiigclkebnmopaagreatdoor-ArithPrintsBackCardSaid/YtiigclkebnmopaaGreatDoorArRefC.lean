/- Arithmetic expressions: the reference's table of levels; whether a sign is in a row. -/
import Derived.Test.YtiigclkebnmopaaGreatDoorArRefB
namespace Go.Proofs.YtiigclkebnmopaaGreatDoor
open Go.RowKit Go.Shelf

def rlev (n : Nat) : List (List UInt8) := ((#[[[124, 124]], [[38, 38]], [[124]], [[94]], [[38]], [[61, 61], [33, 61]], [[60], [60, 61], [62], [62, 61]], [[60, 60], [62, 62]], [[43], [45]], [[42], [47], [37]]] : Array (List (List UInt8)))[n]?).getD []
def rlevV (h j : Nat) : Value := .slice (some ⟨h + j, 0, none⟩) (rlev j).length (rlev j).length
theorem toB_inj {a b : List UInt8} (h : toB a = toB b) : a = b := by
  have := congrArg ByteArray.data h
  simpa [toB] using this
/-- whether a text is in a row -/
theorem rcont_any (g off c : Nat) (L : List (List UInt8)) (s : List UInt8) (w : World) (hL : TX w g off L) (hl : L.length ≤ 100) :
    Calls Tryz.prog 80 #[.slice (some ⟨g, off, none⟩) L.length c, .string (toB s)] w fun e w' => e = .returned (.bool (decide (s ∈ L))) ∧ w' = w := by
  refine (Tryz.slices_Contains_string g off L.length c (L.map toB) (toB s) w (by simp) (by omega) (fun j hj => ?_)).mono ?_
  · rw [List.length_map] at hj
    rw [hL j hj]
    simp [List.getD, hj]
  · rintro e w' ⟨rfl, rfl⟩
    refine ⟨?_, rfl⟩
    rw [show (L.map toB).take L.length = L.map toB from List.take_of_length_le (by simp)]
    rw [show Lib.containsS (L.map toB) (toB s) = decide (s ∈ L) from by
      rw [Bool.eq_iff_iff, Lib.containsS_iff]
      simp only [List.mem_map, decide_eq_true_eq]
      constructor
      · rintro ⟨a, ha, he⟩
        rwa [← toB_inj he]
      · intro h
        exact ⟨s, h, rfl⟩]

end Go.Proofs.YtiigclkebnmopaaGreatDoor

namespace Go.Proofs.YtiigclkebnmopaaGreatDoor
open Go.RowKit Go.Shelf

/-- the table lies there -/
structure RTab (lv h g b : Nat) (W : World) : Prop where
  row : W.cell? ⟨g, lv, none⟩ = some (rlevV h lv)
  txt : TX W (h + lv) 0 (rlev lv)
  lt : h + lv < W.heap.size ∧ g < W.heap.size
  ne : h + lv ≠ b ∧ g ≠ b
theorem RTab.only {lv h g b : Nat} {W W' : World} (k : RTab lv h g b W) (ho : Only b W W') : RTab lv h g b W' :=
  ⟨(World.cell?_of_block (a := ⟨g, lv, none⟩) (ho.block g k.lt.2 k.ne.2)).trans k.row, fun j hj => (World.cell?_of_block (a := ⟨h + lv, 0 + j, none⟩) (ho.block _ k.lt.1 k.ne.1)).trans (k.txt j hj), ⟨Nat.lt_of_lt_of_le k.lt.1 ho.size, Nat.lt_of_lt_of_le k.lt.2 ho.size⟩, k.ne⟩
theorem RTab.stored {lv h g b gx : Nat} {W : World} (k : RTab lv h g b W) (h1 : h + lv ≠ gx) (h2 : g ≠ gx) (v0 v1 v2 v3 : Value) (o : Obj) : RTab lv h g b ((set4 W gx v0 v1 v2 v3).alloc o) := by
  have O := Only.set4 W gx v0 v1 v2 v3
  have k2 : RTab lv h g b (set4 W gx v0 v1 v2 v3) := ⟨(World.cell?_of_block (a := ⟨g, lv, none⟩) (O.block g k.lt.2 h2)).trans k.row, fun j hj => (World.cell?_of_block (a := ⟨h + lv, 0 + j, none⟩) (O.block _ k.lt.1 h1)).trans (k.txt j hj), ⟨Nat.lt_of_lt_of_le k.lt.1 O.size, Nat.lt_of_lt_of_le k.lt.2 O.size⟩, k.ne⟩
  exact k2.only (Only.of ((Below.refl _ _).alloc (Nat.le_refl _) _) (Nat.le_refl _))
end Go.Proofs.YtiigclkebnmopaaGreatDoor

namespace Go.Proofs.YtiigclkebnmopaaGreatDoor
open Go.RowKit Go.Shelf

end Go.Proofs.YtiigclkebnmopaaGreatDoor

namespace Go.Proofs.YtiigclkebnmopaaGreatDoor
open Go.RowKit Go.Shelf

end Go.Proofs.YtiigclkebnmopaaGreatDoor
