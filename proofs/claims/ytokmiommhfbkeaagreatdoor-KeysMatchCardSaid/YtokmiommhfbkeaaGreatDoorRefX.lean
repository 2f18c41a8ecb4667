/- The reference's editor, on its line behind a pointer: inserting. -/
import Derived.Test.YtokmiommhfbkeaaGreatDoorRefW
import Derived.Test.YtokmiommhfbkeaaGreatDoorEditX
import Derived.StillTailTactics
import Derived.BigQuiet
import Derived.IntWalk
namespace Go.Proofs.YtokmiommhfbkeaaGreatDoor
open Go.RowKit

/-- the reference's line, behind a pointer -/
abbrev rlC (d : ED) (bv : Value) (place : Int) (begun : ByteArray) : Array Value :=
  #[.string d.text, .int .i64 d.a, .string d.killed, .bool d.killing, bv, .int .i64 place, .string begun]
def RBox (w : World) (b : Nat) (cs : Array Value) : Prop := w.heap[b]? = some (.cells cs 37 (0, 0))
theorem RBox.cell {w : World} {b : Nat} {cs : Array Value} (h : RBox w b cs) : (∀ j, w.cell? ⟨b, j, none⟩ = cs[j]?) ∧ (∀ j, w.frozen? ⟨b, j, none⟩ = false) :=
  ⟨fun j => by unfold RBox at h; simp [World.cell?, h], fun j => by unfold RBox at h; simp [World.frozen?, h]⟩
theorem RBox.lt {w : World} {b : Nat} {cs : Array Value} (h : RBox w b cs) : b < w.heap.size := lt_of_block h
def RTurned (w : World) (b : Nat) (cs : Array Value) (w' : World) : Prop := w.grownBy w' (some b) ∧ RBox w' b cs
theorem RTurned.refl {w : World} {b : Nat} {cs : Array Value} (h : RBox w b cs) : RTurned w b cs w := ⟨World.grownBy.refl w _, h⟩
theorem RTurned.trans {w w1 w2 : World} {b : Nat} {cs cs' : Array Value} (h : RTurned w b cs w1) (h' : RTurned w1 b cs' w2) : RTurned w b cs' w2 :=
  ⟨World.grownBy.trans h.1 h'.1, h'.2⟩
theorem RTurned.drew {w w1 : World} {b : Nat} {cs : Array Value} (h : RTurned w b cs w1) : RTurned w b cs w1.drew := ⟨only_drew h.1, h.2⟩
theorem RTurned.drewN {w w1 : World} {b : Nat} {cs : Array Value} (h : RTurned w b cs w1) (n : Nat) : RTurned w b cs (w1.drewN n) := ⟨only_drewN h.1 n, h.2⟩
theorem RTurned.alloc {w w1 : World} {b : Nat} {cs : Array Value} (h : RTurned w b cs w1) (o : Obj) : RTurned w b cs (w1.alloc o) :=
  ⟨only_alloc h.1 o, (Below.heap_alloc w1 o b (lt_of_block h.2)).trans h.2⟩
theorem RTurned.set {w w1 : World} {b : Nat} {cs : Array Value} (h : RTurned w b cs w1) (j : Nat) (v : Value) : RTurned w b (cs.setIfInBounds j v) (w1.setCell ⟨b, j, none⟩ v) :=
  ⟨only_setCell h.1 (.inl rfl) v, heap_setCell_same _ _ _ _ _ _ h.2⟩

set_option maxRecDepth 100000 in
set_option maxHeartbeats 1600000 in
theorem rinsert_any (d : ED) (bv : Value) (place : Int) (begun s : ByteArray) (b : Nat) (w : World) (h : RBox w b (rlC d bv place begun)) (ha : d.a ≤ d.text.size) (ht : d.text.size ≤ 1000) (hs : s.size ≤ 1000) :
    Calls Tryz.prog 86 #[.pointer (some ⟨b, 0, none⟩), .string s] w fun e w' => e = .returned (.tuple #[]) ∧ RTurned w b (rlC (insD s d) bv place begun) w' := by
  obtain ⟨text, a, killed, killing⟩ := d
  dsimp only at *
  obtain ⟨cc, zz⟩ := h.cell
  have HB := Lib.hid h
  clear h
  by_cases hle : text.size + s.size ≤ 1000
  · have hfin : insD s ⟨text, a, killed, killing⟩ = ⟨text.extract 0 a ++ s ++ text.extract a text.size, a + s.size, killed, killing⟩ := by simp [insD, hle]
    rw [hfin]
    clear hfin
    have g1 : ¬ 9223372036854775807 < a + s.size := by omega
    have g2 : ¬ 9223372036854775807 < a + s.size + (text.size - a) := by omega
    go_enter Tryz.func86, Tryz.ntmps86
    go_wp2_with fail
    go_still_tail 24, (by kernel_rfl)
    go_wp2
    go_end0
    exact ⟨rfl, ((RTurned.refl HB.out).drew.set 0 _).set 1 _⟩
  · have hfin : insD s ⟨text, a, killed, killing⟩ = ⟨text, a, killed, killing⟩ := by simp [insD, hle]
    rw [hfin]
    clear hfin
    go_enter Tryz.func86, Tryz.ntmps86
    go_wp2
    refine bodyPost_ret (results_none rfl _ _ _) rfl ?_
    exact ⟨rfl, RTurned.refl HB.out⟩

end Go.Proofs.YtokmiommhfbkeaaGreatDoor
