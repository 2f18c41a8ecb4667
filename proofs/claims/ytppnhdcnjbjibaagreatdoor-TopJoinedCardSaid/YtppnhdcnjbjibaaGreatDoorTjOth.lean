/- TopJoined: the fields of a record but its first. (Printed by tools/gtjadd.py.) -/
import Derived.Test.YtppnhdcnjbjibaaGreatDoorTjRecs
import Derived.Test.YtppnhdcnjbjibaaGreatDoorTjCat
import Derived.Test.YtppnhdcnjbjibaaGreatDoorTail
namespace Go.Proofs.YtppnhdcnjbjibaaGreatDoor
open Go.RowKit

theorem OwnL.pv {base : Nat} {v : Value} {L : List ByteArray} {w : World} (h : OwnL base v L w) (h0 : 0 < L.length) : ∃ p : PV, v = p.val ∧ p.l = L ∧ p.ok w := by
  obtain ⟨A, c, rfl, hc, h1⟩ := h.sl
  obtain ⟨b, off, rfl, hb, hcell⟩ := h1 h0
  exact ⟨⟨b, off, c, L⟩, rfl, rfl, hb, hc, hcell⟩
theorem own_low {b b' : Nat} {v : Value} {L : List ByteArray} {w : World} (h : OwnL b v L w) (hb : b' ≤ b) : OwnL b' v L w := by
  refine ⟨h.1, ?_⟩
  rcases h.2 with h0 | ⟨g, cap, cur, h1, h2, h3⟩
  · exact .inl h0
  · exact .inr ⟨g, cap, cur, h1, Nat.le_trans hb h2, h3⟩
/-- two slices in a new block -/
theorem two_cells (w : World) (u v : Value) (T : TypeId) : (w.alloc (.cells #[u, v] T)).cell? ⟨w.heap.size, 0, none⟩ = some u ∧ (w.alloc (.cells #[u, v] T)).cell? ⟨w.heap.size, 1, none⟩ = some v := by
  have h := heap_alloc_new w (.cells #[u, v] T)
  constructor <;> (simp only [World.cell?, h]; rfl)
theorem three_cells (w : World) (u v z : Value) (T : TypeId) : (w.alloc (.cells #[u, v, z] T)).cell? ⟨w.heap.size, 0, none⟩ = some u ∧ (w.alloc (.cells #[u, v, z] T)).cell? ⟨w.heap.size, 1, none⟩ = some v ∧ (w.alloc (.cells #[u, v, z] T)).cell? ⟨w.heap.size, 2, none⟩ = some z := by
  have h := heap_alloc_new w (.cells #[u, v, z] T)
  refine ⟨?_, ?_, ?_⟩ <;> (simp only [World.cell?, h]; rfl)
theorem FieldsAt.pv {w : World} {p : RP} (h : FieldsAt w p) : (PV.mk p.2 0 3 []).ok w ∧ (PV.mk p.2 1 2 [p.1.2.1, p.1.2.2]).ok w := by
  have hlt : p.2 < w.heap.size := (Array.getElem?_eq_some_iff.1 h).1
  unfold FieldsAt at h
  refine ⟨⟨hlt, by simp, fun j hj => by simp at hj⟩, ⟨hlt, by simp, fun j hj => ?_⟩⟩
  simp only [List.length_cons, List.length_nil] at hj
  match j, hj with
  | 0, _ => simp [World.cell?, h]
  | 1, _ => simp [World.cell?, h]

set_option maxRecDepth 100000 in
set_option maxHeartbeats 3200000 in
theorem others_any (p : RP) (b off : Nat) (w : World) (h0 : w.cell? ⟨b, off, none⟩ = some (fldV p.2)) (hf : FieldsAt w p) :
    Calls Tryz.prog 63 #[.pointer (some ⟨b, off, none⟩), .int .i64 1] w fun e w' => ∃ v, e = .returned v ∧ OwnL w.heap.size v [p.1.2.1, p.1.2.2] w' ∧ Below w.heap.size w w' := by
  unfold fldV at h0
  have HF := Lib.hid hf
  obtain ⟨fb, hfb⟩ : ∃ fb, fb = p.2 := ⟨_, rfl⟩
  rw [← hfb] at h0
  have HFB := Lib.hid hfb
  clear hf hfb
  go_enter Tryz.func63, Tryz.ntmps63
  go_upto_region 5 with fail
  refine wp_region_tail 13 (fun W => W.cell? ⟨b, off, none⟩ = some (.slice (some ⟨fb, 0, none⟩) 3 3)) (by kernel_rfl) (by decide) ?_
  have hS : w.drew.cell? ⟨b, off, none⟩ = some (.slice (some ⟨fb, 0, none⟩) 3 3) := h0
  have hw0 : IntKind.i64.wrap 0 = 0 := by decide
  refine wpAnyT_take 99 0 (v := ?_) (by kernel_rfl) rfl (by kernel_rfl) (fun _ _ _ h => h) (Or.inl ⟨by rfl, fun W hW => ?_⟩) (by with_reducible assumption) ?_
  rotate_left
  focus ((try dsimp only at hW); go_simp; try with_reducible rfl)
  refine wpAnyT_take 99 1 (v := ?_) (by kernel_rfl) rfl (by kernel_rfl) (fun _ _ _ h => h) (Or.inl ⟨by rfl, fun W hW => ?_⟩) (by with_reducible assumption) ?_
  rotate_left
  focus ((try dsimp only at hW); go_simp; try with_reducible rfl)
  refine wpAnyT_take 99 2 (v := ?_) (by kernel_rfl) rfl (by kernel_rfl) (fun _ _ _ h => h) (Or.inl ⟨by rfl, fun W hW => ?_⟩) (by with_reducible assumption) ?_
  rotate_left
  focus ((try dsimp only at hW); go_simp; try with_reducible rfl)
  refine wpAnyT_take 99 3 (v := ?_) (by kernel_rfl) rfl (by kernel_rfl) (fun _ _ _ h => h) (Or.inl ⟨by rfl, fun W hW => ?_⟩) (by with_reducible assumption) ?_
  rotate_left
  focus ((try dsimp only at hW); go_simp; try with_reducible rfl)
  refine wpAnyT_take 99 4 (v := ?_) (by kernel_rfl) rfl (by kernel_rfl) (fun _ _ _ h => h) (Or.inl ⟨by rfl, fun W hW => ?_⟩) (by with_reducible assumption) ?_
  rotate_left
  focus ((try dsimp only at hW); go_simp; try with_reducible rfl)
  refine wpAnyT_take 99 5 (v := ?_) (by kernel_rfl) rfl (by kernel_rfl) (fun _ _ _ h => h) (Or.inl ⟨by rfl, fun W hW => ?_⟩) (by with_reducible assumption) ?_
  rotate_left
  focus ((try dsimp only at hW); go_simp; try with_reducible rfl)
  refine wpAnyT_take 99 6 (v := .slice (some ⟨fb, 0, none⟩) 0 3) (by kernel_rfl) rfl (by kernel_rfl) (fun _ _ _ h => h) (Or.inl ⟨by rfl, fun W hW => ?_⟩) (by with_reducible assumption) ?_
  · (go_simp; try (simp only [hw0]; rfl))
  refine wpAnyT_take 99 7 (v := ?_) (by kernel_rfl) rfl (by kernel_rfl) (fun _ _ _ h => h) (Or.inl ⟨by rfl, fun W hW => ?_⟩) (by with_reducible assumption) ?_
  rotate_left
  focus ((try dsimp only at hW); go_simp; try with_reducible rfl)
  refine wpAnyT_take 99 8 (v := ?_) (by kernel_rfl) rfl (by kernel_rfl) (fun _ _ _ h => h) (Or.inl ⟨by rfl, fun W hW => ?_⟩) (by with_reducible assumption) ?_
  rotate_left
  focus ((try dsimp only at hW); go_simp; try with_reducible rfl)
  refine wpAnyT_take 99 9 (v := ?_) (by kernel_rfl) rfl (by kernel_rfl) (fun _ _ _ h => h) (Or.inl ⟨by rfl, fun W hW => ?_⟩) (by with_reducible assumption) ?_
  rotate_left
  focus ((try dsimp only at hW); go_simp; try with_reducible rfl)
  refine wpAnyT_take 99 10 (v := ?_) (by kernel_rfl) rfl (by kernel_rfl) (fun _ _ _ h => h) (Or.inl ⟨by rfl, fun W hW => ?_⟩) (by with_reducible assumption) ?_
  rotate_left
  focus ((try dsimp only at hW); go_simp; try with_reducible rfl)
  refine wpAnyT_take 99 11 (v := ?_) (by kernel_rfl) rfl (by kernel_rfl) (fun _ _ _ h => h) (Or.inl ⟨by rfl, fun W hW => ?_⟩) (by with_reducible assumption) ?_
  rotate_left
  focus ((try dsimp only at hW); go_simp; try with_reducible rfl)
  refine wpAnyT_take 99 12 (v := .slice (some ⟨fb, 1, none⟩) 2 2) (by kernel_rfl) rfl (by kernel_rfl) (fun _ _ _ h => h) (Or.inl ⟨by rfl, fun W hW => ?_⟩) (by with_reducible assumption) ?_
  · (go_simp; try (simp only [hw0]; rfl))
  simp only [Act.put, List.getElem_toArray, List.getElem_cons_zero, List.getElem_cons_succ, List.setIfInBounds_toArray, List.set_cons_zero, List.set_cons_succ]
  refine ⟨by kernel_rfl, ?_⟩
  simp only [List.drop_succ_cons, List.drop_zero]
  have hb1 : Below w.heap.size w (w.drew.alloc (.cells #[.slice (some ⟨fb, 0, none⟩) 0 3, .slice (some ⟨fb, 1, none⟩) 2 2] 26)) := ((Below.refl _ w).drew).alloc (Nat.le_refl _) _
  have HCC := Lib.hid (concat_any [PV.mk fb 0 3 [], PV.mk fb 1 2 [p.1.2.1, p.1.2.2]] w.drew.heap.size (w.drew.alloc (.cells #[.slice (some ⟨fb, 0, none⟩) 0 3, .slice (some ⟨fb, 1, none⟩) 2 2] 26)) (by simp) (fun j hj => by
    obtain ⟨q0, q1⟩ := two_cells w.drew (.slice (some ⟨fb, 0, none⟩) 0 3) (.slice (some ⟨fb, 1, none⟩) 2 2) 26
    simp only [List.length_cons, List.length_nil] at hj
    match j, hj with
    | 0, _ => exact q0
    | 1, _ => exact q1) (fun q hq => by
    simp only [List.mem_cons, List.not_mem_nil, or_false] at hq
    have hk := (HF.out.keep hb1).pv
    rw [← HFB.out] at hk
    rcases hq with rfl | rfl
    · exact hk.1
    · exact hk.2) (by simp) (by simp [PV.all]))
  have HB1 := Lib.hid hb1
  clear hb1 hS
  go_wp2_with fail
  refine HCC.out.mono ?_
  rintro e w2 ⟨v, rfl, ho, hb2⟩
  have HO2 := Lib.hid (own_low ho HB1.out.size)
  have HB2 := Lib.hid (HB1.out.trans (hb2.mono HB1.out.size))
  clear ho hb2
  go_wp2_with fail
  go_ret
  exact ⟨v, rfl, HO2.out, HB2.out⟩
end Go.Proofs.YtppnhdcnjbjibaaGreatDoor
