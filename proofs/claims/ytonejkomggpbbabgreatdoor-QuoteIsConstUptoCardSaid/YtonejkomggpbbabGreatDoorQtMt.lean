/- QuoteIsConst: the meter passes a word of plain pieces. -/
import Derived.Test.YtonejkomggpbbabGreatDoorQtMem
namespace Go.Proofs.YtonejkomggpbbabGreatDoor
open Go.RowKit Go.Shelf

/-- the meter in its box has counted n parts -/
def Mt (w : World) (b n : Nat) : Prop := w.heap[b]? = some (.cells #[.int .i64 0, .int .i64 (n : Int)] 62 (0, 0))
theorem Mt.lt {w : World} {b n : Nat} (h : Mt w b n) : b < w.heap.size := (Array.getElem?_eq_some_iff.1 h).1
theorem Mt.cells {w : World} {b n : Nat} (h : Mt w b n) : w.cell? ⟨b, 1, none⟩ = some (.int .i64 (n : Int)) ∧ ∀ i, w.frozen? ⟨b, i, none⟩ = false := by
  unfold Mt at h
  refine ⟨?_, ?_⟩
  all_goals first | simp [World.cell?, h] | simp [World.frozen?, h]
theorem Mt.cell0 {w : World} {b n : Nat} (h : Mt w b n) : w.cell? ⟨b, 0, none⟩ = some (.int .i64 0) := by
  unfold Mt at h
  simp [World.cell?, h]
theorem Mt.set {w : World} {b n : Nat} (h : Mt w b n) (m : Nat) : Mt (w.setCell ⟨b, 1, none⟩ (.int .i64 (m : Int))) b m := by
  unfold Mt at h ⊢
  rw [heap_setCell_same _ _ _ _ _ _ h]
  rfl
theorem Mt.below {w w' : World} {b n : Nat} (h : Mt w b n) (hb : Below w.heap.size w w') : Mt w' b n := (hb.block b h.lt).trans h
set_option maxRecDepth 100000 in
set_option maxHeartbeats 1600000 in
theorem part_any (b n : Nat) (w : World) (h : Mt w b n) (hn : n < 1048576) :
    Calls Tryz.prog 71 #[.pointer (some ⟨b, 0, none⟩), .int .i64 1] w fun e w' => e = .returned (.int .i64 0) ∧ Mt w' b (n + 1) ∧ Only b w w' := by
  obtain ⟨c1, cf⟩ := h.cells
  have HF := Lib.hid (h.set (n + 1))
  have HO := Lib.hid ((Only.refl b w).setCell (i := 1) (.int .i64 ((n + 1 : Nat) : Int)))
  have e1 : IntKind.i64.wrap ((n : Int) + 1) = (n : Int) + 1 := IntWalk.i64_in _ (by omega)
  rw [show ((n + 1 : Nat) : Int) = (n : Int) + 1 by simp] at HF HO
  have hm1 : ¬ (1048576 : Int) < (n : Int) + 1 := by omega
  go_enter Tryz.func71, Tryz.ntmps71
  go_wp2_with fail
  go_ret
  exact ⟨rfl, HF.out, HO.out⟩
/-- no pieces: nothing to measure -/
theorem every_none (d : Int) (f : Value) (w : World) :
    Calls Tryz.prog 44 #[.slice none 0 0, .int .i64 d, f] w fun e w' => e = .returned (.int .i64 0) ∧ w' = w := by
  go_enter Tryz.func44, Tryz.ntmps44
  go_wp2_with fail
  refine wp_loop_rounds 1 ?_
  rw [rounds_succ]
  go_wp2_with fail
  go_ret
  exact ⟨rfl, rfl⟩
/-- a piece in a box -/
def PBx (w : World) (x : Nat) (p : KT) : Prop := w.heap[x]? = some (.cells (pcV p).toArray 68 (0, 0))
theorem PBx.cells {w : World} {x : Nat} {p : KT} (h : PBx w x p) : w.cell? ⟨x, 2, none⟩ = some (.slice none 0 0) ∧ w.cell? ⟨x, 3, none⟩ = some (.pointer none) ∧ w.cell? ⟨x, 4, none⟩ = some (.pointer none) ∧ w.cell? ⟨x, 5, none⟩ = some (.pointer none) := by
  unfold PBx at h
  unfold World.cell?
  simp only [h]
  exact ⟨rfl, rfl, rfl, rfl⟩
set_option maxRecDepth 100000 in
set_option maxHeartbeats 1600000 in
theorem p1_any (x d m b : Nat) (p : KT) (w : World) (hx : PBx w x p) (hd : w.cell? ⟨d, 0, none⟩ = some (.int .i64 1)) (hm : w.cell? ⟨m, 0, none⟩ = some (.pointer (some ⟨b, 0, none⟩))) :
    Calls Tryz.prog 73 #[.pointer (some ⟨x, 0, none⟩), .pointer (some ⟨d, 0, none⟩), .pointer (some ⟨m, 0, none⟩)] w fun e w' => e = .returned (.int .i64 0) ∧ w' = w := by
  obtain ⟨c2, c3, c4, c5⟩ := hx.cells
  have hmf : ∀ (fn : Fn) (first cap : Array Value) (w : World), (Instr.makeFunc fn first cap).run Tryz.prog w = .ok (.func fn first cap) w := fun _ _ _ _ => rfl
  go_enter Tryz.func73, Tryz.ntmps73
  go_wp2_with (go_at_call 44; refine (every_none _ _ _).mono ?_; rintro e w1 ⟨rfl, rfl⟩)
  go_ret
  exact ⟨rfl, rfl⟩
set_option maxRecDepth 100000 in
set_option maxHeartbeats 1600000 in
theorem p2_any (x d m : Nat) (p : KT) (w : World) (hx : PBx w x p) :
    Calls Tryz.prog 74 #[.pointer (some ⟨x, 0, none⟩), .pointer (some ⟨m, 0, none⟩), .pointer (some ⟨d, 0, none⟩)] w fun e w' => e = .returned (.int .i64 0) ∧ w' = w := by
  obtain ⟨c2, c3, c4, c5⟩ := hx.cells
  go_enter Tryz.func74, Tryz.ntmps74
  go_wp2_with fail
  go_ret
  exact ⟨rfl, rfl⟩
set_option maxRecDepth 100000 in
set_option maxHeartbeats 1600000 in
theorem p3_any (x d m : Nat) (p : KT) (w : World) (hx : PBx w x p) :
    Calls Tryz.prog 76 #[.pointer (some ⟨x, 0, none⟩), .pointer (some ⟨m, 0, none⟩), .pointer (some ⟨d, 0, none⟩)] w fun e w' => e = .returned (.int .i64 0) ∧ w' = w := by
  obtain ⟨c2, c3, c4, c5⟩ := hx.cells
  go_enter Tryz.func76, Tryz.ntmps76
  go_wp2_with fail
  go_ret
  exact ⟨rfl, rfl⟩
set_option maxRecDepth 100000 in
set_option maxHeartbeats 1600000 in
theorem p4_any (x d m : Nat) (p : KT) (w : World) (hx : PBx w x p) :
    Calls Tryz.prog 78 #[.pointer (some ⟨x, 0, none⟩), .pointer (some ⟨m, 0, none⟩), .pointer (some ⟨d, 0, none⟩)] w fun e w' => e = .returned (.int .i64 0) ∧ w' = w := by
  obtain ⟨c2, c3, c4, c5⟩ := hx.cells
  go_enter Tryz.func78, Tryz.ntmps78
  go_wp2_with fail
  go_ret
  exact ⟨rfl, rfl⟩
end Go.Proofs.YtonejkomggpbbabGreatDoor
