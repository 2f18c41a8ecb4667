/- Arithmetic expressions: the program's printer: String, need, the closure that counts. -/
import Derived.Test.YtiigclkebnmopaaGreatDoorArPrA
import Derived.Shelf.Strings.Builder1
namespace Go.Proofs.YtiigclkebnmopaaGreatDoor
open Go.RowKit Go.Shelf

theorem below_PF {B b : Nat} {w w' : World} (h : PF B b w w') (hB : B ≤ b) (hw : B ≤ w.heap.size) : Below B w w' := ⟨h.os, h.tape, h.output, h.size, fun k hk => h.block k (by omega) (by omega) (.inl hk)⟩
theorem freeze_other (w : World) (g n k : Nat) (hk : k ≠ g) : (w.freeze ⟨g, 0, none⟩ n).heap[k]? = w.heap[k]? := by
  unfold World.freeze
  split
  · rfl
  · simp only [Array.getElem?_modify]
    rw [if_neg (fun e => hk e.symm)]
theorem freeze_size (w : World) (g n : Nat) : w.heap.size ≤ (w.freeze ⟨g, 0, none⟩ n).heap.size := by
  unfold World.freeze
  split
  · exact Nat.le_refl _
  · simp
set_option maxRecDepth 100000 in
set_option maxHeartbeats 3200000 in
/-- the text that was written -/
theorem st_any (B b : Nat) (L : List UInt8) (bad : Bool) (w : World) (h : Pr w B b L bad) (h0 : L ≠ []) (hl : L.length ≤ 1000000000) :
    Calls Tryz.prog 43 #[.pointer (some ⟨b, 0, none⟩)] w fun e w' => e = .returned (.string (toB L)) ∧ w'.cell? ⟨b, 3, none⟩ = some (.bool bad) ∧ PF B b w w' := by
  obtain ⟨p, v, h1, h2, _, hBb⟩ := h
  have hl0 : L.length ≠ 0 := by simpa using h0
  have hcells := fun g hg => h2.cells (g := g) hg
  obtain ⟨g, cap, cur, rfl, hBg, hg, hnc, hcs⟩ : ∃ g cap cur, v = .slice (some ⟨g, 0, none⟩) L.length cap ∧ B ≤ g ∧ w.heap[g]? = some (.cells cur 5 (0, 0)) ∧ L.length ≤ cap ∧ cur.size = cap * 1 := by
    rcases h2.2 with ⟨_, hz⟩ | ⟨g, cap, cur, hv, hb, hg, hnc, _, hcs, _⟩
    · exact absurd hz hl0
    · exact ⟨g, cap, cur, hv, hb, hg, hnc, hcs⟩
  have hgb : g ≠ b := own_ne h2 h1 (by decide) g rfl
  have c1 : w.drew.cell? ⟨b, 1, none⟩ = some (.slice (some ⟨g, 0, none⟩) L.length cap) := by
    show w.cell? _ = _
    simp [World.cell?, h1, prC]
  have hSD : (Builtin.unsafeSliceData_ #[82] 160 #[.slice (some ⟨g, 0, none⟩) L.length cap]).run Tryz.prog w.drew = .ok (.pointer (some ⟨g, 0, none⟩)) w.drew :=
    Lib.run_unsafeSliceData_row _ _ _ _ _ _ (by omega)
  have hUS : (Builtin.unsafeString_ #[160, 3] 9 #[.pointer (some ⟨g, 0, none⟩), .int .i64 L.length]).run Tryz.prog w.drew = .ok (.string ⟨L.toArray⟩) (w.drew.freeze ⟨g, 0, none⟩ L.length) := by
    refine Lib.run_unsafeString_row w.drew 160 3 9 5 Tryz.underlying160 (by kernel_rfl) g cur.size (by have hg' : w.drew.heap[g]? = some (.cells cur 5 (0, 0)) := hg; simp [World.shape?, hg']) L h0 (by omega) (by omega) ?_
    intro j x hx
    exact hcells g rfl j (.int .u8 x.toNat) (by simp [bytesV, hx])
  have hfin : (w.drew.freeze ⟨g, 0, none⟩ L.length).cell? ⟨b, 3, none⟩ = some (.bool bad) ∧ PF B b w (w.drew.freeze ⟨g, 0, none⟩ L.length) := by
    have hk : ∀ k, k ≠ g → (w.drew.freeze ⟨g, 0, none⟩ L.length).heap[k]? = w.heap[k]? := fun k hk => freeze_other w.drew g L.length k hk
    have hs : w.heap.size ≤ (w.drew.freeze ⟨g, 0, none⟩ L.length).heap.size := freeze_size w.drew g L.length
    have hb := Lib.below_freeze ((Below.refl B w).drew) (p := ⟨g, 0, none⟩) hBg L.length
    refine ⟨?_, hb.os, hb.tape, hb.output, hs, fun k _ _ hc => hk k fun e => ?_⟩
    · have e := hk b (fun e => hgb e.symm)
      rw [World.cell?_of_block (a := ⟨b, 3, none⟩) e]
      simp [World.cell?, h1, prC]
    · subst e
      rcases hc with hc | hc
      · omega
      · exact hc _ _ hg
  have mixed := Tryz.lays169.mixed
  have HF := Lib.hid hfin
  clear hfin h1 h2 hcells
  go_enter Tryz.func43, Tryz.ntmps43
  go_wp2
  go_region_o
  all_goals (go_wp2; go_ret; exact ⟨rfl, HF.out.1, HF.out.2⟩)

set_option maxRecDepth 100000 in
set_option maxHeartbeats 1600000 in
theorem need_any (B b : Nat) (L : List UInt8) (bad q : Bool) (w : World) (h : Pr w B b L bad) :
    Calls Tryz.prog 84 #[.pointer (some ⟨b, 0, none⟩), .bool q] w fun e w' => e = .returned (.bool q) ∧ Pr w' B b L (bad || !q) ∧ PF B b w w' := by
  obtain ⟨p, v, h1, h2, h3, hBb⟩ := h
  have c0 : ∀ j, w.cell? ⟨b, j, none⟩ = (prC p v bad)[j]? := fun j => by simp [World.cell?, h1]
  have z0 : ∀ j, w.frozen? ⟨b, j, none⟩ = false := fun j => by simp [World.frozen?, h1]
  unfold prC at c0
  have hk := heap_setCell_same w b 3 (prC p v bad) 87 (.bool (bad || !q)) h1
  have HF := Lib.hid (show Pr (w.setCell ⟨b, 3, none⟩ (.bool (bad || !q))) B b L (bad || !q) ∧ PF B b w (w.setCell ⟨b, 3, none⟩ (.bool (bad || !q))) from
    ⟨⟨p, v, by rw [hk]; rfl, own_set h2 h1 (by decide), h3, hBb⟩, (PF.refl B b w).set⟩)
  clear h1 h2 h3 hk
  cases bad with
  | true =>
    go_enter Tryz.func84, Tryz.ntmps84
    go_wp2_with fail
    go_ret
    exact ⟨rfl, HF.out.1, HF.out.2⟩
  | false =>
    cases q with
    | true =>
      go_enter Tryz.func84, Tryz.ntmps84
      go_wp2_with fail
      go_ret
      exact ⟨rfl, HF.out.1, HF.out.2⟩
    | false =>
      go_enter Tryz.func84, Tryz.ntmps84
      go_wp2_with fail
      go_ret
      exact ⟨rfl, HF.out.1, HF.out.2⟩

end Go.Proofs.YtiigclkebnmopaaGreatDoor
