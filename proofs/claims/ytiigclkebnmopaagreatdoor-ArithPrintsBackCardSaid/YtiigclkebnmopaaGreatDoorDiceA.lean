/- ConstMatches, the law's dice: one of the things that may be built is taken. -/
import Derived.Test.YtiigclkebnmopaaGreatDoorRoll
namespace Go.Proofs.YtiigclkebnmopaaGreatDoor
open Go.RowKit

set_option maxHeartbeats 800000 in
theorem dmore_any (b : Nat) (A : Option Addr) (n c : Nat) (i left : Int) (w : World) (h : DW w b A n c i left) (hl : -4611686018427387904 ≤ left) (hl2 : left ≤ 4611686018427387904) :
    Calls Tryz.prog 36 #[.pointer (some ⟨b, 0, none⟩)] w fun e w' => e = .returned (.bool (decide (1 < left))) ∧ DW w' b A n c i (left - 1) ∧ Only b w w' := by
  have c0 : ∀ j, w.cell? ⟨b, j, none⟩ = #[Value.slice A n c, .int .i64 i, .int .i64 left][j]? := fun j => by simp [World.cell?, h.box]
  have z0 : ∀ j, w.frozen? ⟨b, j, none⟩ = false := fun j => by simp [World.frozen?, h.box]
  have e1 : IntKind.i64.wrap (left - 1) = left - 1 := IntWalk.i64_in _ (by omega)
  have hk := heap_setCell_same w b 2 #[Value.slice A n c, .int .i64 i, .int .i64 left] 75 (.int .i64 (left - 1)) h.box
  have HD := Lib.hid (show DW (w.setCell ⟨b, 2, none⟩ (.int .i64 (left - 1))) b A n c i (left - 1) from h.only ((Only.refl b w).setCell (.int .i64 (left - 1))) (by rw [hk]; rfl))
  have HO := Lib.hid ((Only.refl b w).setCell (i := 2) (.int .i64 (left - 1)))
  have hlt : b < w.heap.size := (Array.getElem?_eq_some_iff.1 h.box).1
  clear h hk
  go_enter Tryz.func36, Tryz.ntmps36
  go_upto_region 2 with fail
  generalize w.setCell ⟨b, 2, none⟩ (.int .i64 (left - 1)) = w2 at *
  clear c0 z0
  have c2 : ∀ j, w2.cell? ⟨b, j, none⟩ = #[Value.slice A n c, .int .i64 i, .int .i64 (left - 1)][j]? := fun j => by simp [World.cell?, HD.out.box]
  go_wp2_with fail
  go_ret
  exact ⟨rfl, HD.out, HO.out⟩

set_option maxRecDepth 100000 in
set_option maxHeartbeats 800000 in
theorem of_any (b : Nat) (A : Option Addr) (n c : Nat) (i left : Int) (L : List ByteArray) (g off c2 : Nat) (w : World) (h : DW w b A n c i left) (hn : n ≤ 9223372036854775807) (hi : 0 ≤ i) (hi2 : i ≤ 4611686018427387904) (h1 : 1 ≤ L.length) (h2 : L.length ≤ 1000)
    (hg : g < w.heap.size) (hgb : g ≠ b) (hcell : ∀ j (h : j < L.length), w.cell? ⟨g, off + j, none⟩ = some (.string L[j])) :
    Calls Tryz.prog 38 #[.pointer (some ⟨b, 0, none⟩), .slice (some ⟨g, off, none⟩) L.length c2] w fun e w' => ∃ (s : ByteArray) (i' : Int), e = .returned (.string s) ∧ s ∈ L ∧ i ≤ i' ∧ i' ≤ i + 1 ∧ DW w' b A n c i' left ∧ Only b w w' := by
  have HR := Lib.hid (roll_any b A n c i left (L.length : Int) w h hn hi hi2 (by omega) (by omega))
  have HC := Lib.hid hcell
  clear h hcell
  go_enter Tryz.func38, Tryz.ntmps38
  go_wp2_with fail
  refine HR.out.mono ?_
  rintro e w2 ⟨r, i', rfl, hr1, hr2, hi3, hi4, hd, ho⟩
  obtain ⟨k, rfl⟩ := Int.eq_ofNat_of_zero_le hr1
  have hk : k < L.length := by omega
  have hcl : w2.cell? ⟨g, off + k, none⟩ = some (.string L[k]) := (World.cell?_of_block (a := ⟨g, off + k, none⟩) (ho.block g hg hgb)).trans (HC.out k hk)
  have HM := Lib.hid (List.getElem_mem hk)
  have HD := Lib.hid hd
  have HO := Lib.hid ho
  generalize L[k] = s at *
  clear hd ho
  go_wp2_with fail
  go_ret
  exact ⟨s, i', rfl, HM.out, hi3, hi4, HD.out, HO.out⟩

end Go.Proofs.YtiigclkebnmopaaGreatDoor
