/- The program's editor, in its box: keys that change the text. -/
import Derived.Test.YtokmiommhfbkeaaGreatDoorEditM
import Derived.Test.YtokmiommhfbkeaaGreatDoorShown
namespace Go.Proofs.YtokmiommhfbkeaaGreatDoor
open Go.RowKit

def ChangePost (w : World) (b : Nat) (d : ED) (bv : Value) (place : Int) (begun : ByteArray) (hv : Value) (e : Ending) (w' : World) : Prop :=
  e = .returned (.tuple #[]) ∧ Turned w b (edC d bv place begun hv) w'
theorem box_key {w : World} {b : Nat} {cs : Array Value} (h : Box w b cs) (o : Obj) : Turned w b cs (w.alloc o) := (Turned.refl h).alloc o
theorem two_cells (w : World) (x y : Value) (t : TypeId) : (w.alloc (.cells #[x, y] t)).cell? ⟨w.heap.size, 0, none⟩ = some x ∧ (w.alloc (.cells #[x, y] t)).cell? ⟨w.heap.size, 1, none⟩ = some y := by
  constructor <;> rw [World.cell?_alloc_at _ _ _ _ rfl] <;> rfl

set_option maxRecDepth 100000 in
set_option maxHeartbeats 3200000 in
theorem change_ins (d : ED) (kind : Int) (c : UInt8) (was : Bool) (bv hv : Value) (place : Int) (begun : ByteArray) (b : Nat) (w : World) (h : Box w b (edC d bv place begun hv)) (ha : d.a ≤ d.text.size) (ht : d.text.size ≤ 1000) (hk : kind = 1 ∨ kind = 22) :
    Calls Tryz.prog 37 #[.pointer (some ⟨b, 0, none⟩), .agg #[.int .i64 kind, .int .i64 c.toNat], .bool was] w (ChangePost w b (actD kind c.toNat was d) bv place begun hv) := by
  have hI := Lib.hid (fun o => insert_any d bv hv place begun ⟨#[c]⟩ b ((w.alloc (.cells #[.int .i64 kind, .int .i64 c.toNat] 42)).alloc o) (((box_key h _).alloc o).2) ha ht (by show 1 ≤ 1000; omega))
  have hcv := one_back (w.alloc (.cells #[.int .i64 kind, .int .i64 c.toNat] 42)) c
  rw [show (w.alloc (.cells #[.int .i64 kind, .int .i64 c.toNat] 42)).heap.size = w.heap.size + 1 by simp] at hcv
  have HB := Lib.hid h
  have hwr : IntKind.u8.wrap (c.toNat : Int) = (c.toNat : Int) := by have := c.toNat_lt; rw [IntKind.wrap_u8]; omega
  clear h
  rcases hk with rfl | rfl
  all_goals
    go_enter Tryz.func37, Tryz.ntmps37
    go_wp2_with fail
    refine (hI.out _).mono ?_
    rintro e w' ⟨rfl, hT⟩
    go_wp2
    go_end0
    refine ⟨rfl, ?_⟩
    first
      | rw [show actD 1 c.toNat was d = insD ⟨#[c]⟩ d by simp [actD]]
      | rw [show actD 22 c.toNat was d = insD ⟨#[c]⟩ d by simp [actD]]
    exact (((Turned.refl HB.out).alloc _).alloc _).trans hT

end Go.Proofs.YtokmiommhfbkeaaGreatDoor
