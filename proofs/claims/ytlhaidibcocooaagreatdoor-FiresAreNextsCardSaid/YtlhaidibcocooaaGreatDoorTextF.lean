/- Times, the reference: a name is read as its number. (Begun; see NOTES.md.) -/
import Derived.Test.YtlhaidibcocooaaGreatDoorTextE
namespace Go.Proofs.YtlhaidibcocooaaGreatDoor
open Go.RowKit Go.Shelf

set_option maxRecDepth 100000 in
set_option maxHeartbeats 1600000 in
theorem number_name (low high k : Nat) (x y : ByteArray) (A : Option Addr) (c : Nat) (NM : List ByteArray) (w : World) (hlow : low ≤ 100) (hk : k ≤ 100)
    (hL : ∀ W, Calls Tryz.prog 100 #[.string x] W fun e w' => e = .returned (.string y) ∧ Below W.heap.size W w')
    (hI : ∀ W, Below w.heap.size w W → Calls Tryz.prog 99 #[.slice A NM.length c, .string y] W fun e w' => e = .returned (.int .i64 (k : Int)) ∧ w' = W) :
    Calls Tryz.prog 68 #[.agg #[.int .i64 (low : Int), .int .i64 (high : Int), .slice A NM.length c], .string x] w fun e w' => e = .returned (.tuple #[.int .i64 ((k : Int) + (low : Int)), .int .i64 2]) ∧ Below w.heap.size w w' := by
  have HL := Lib.hid hL
  have HI := Lib.hid hI
  have HX := Lib.hid (BX.start w #[.int .i64 (low : Int), .int .i64 (high : Int), .slice A NM.length c] 75)
  clear hL hI
  go_enter Tryz.func68, Tryz.ntmps68
  go_upto_region 1 with fail
  generalize w.alloc (.cells #[.int .i64 (low : Int), .int .i64 (high : Int), .slice A NM.length c] 75) = w1 at *
  have cx := HX.out.cells
  have hc2 : w1.cell? ⟨w.heap.size, 2, none⟩ = some (.slice A NM.length c) := cx 2
  have lx := HX.out.lt
  clear cx
  have HK : Hid (∀ W, Below w1.heap.size w1 W → W.cell? ⟨w.heap.size, 2, none⟩ = some (.slice A NM.length c)) := Lib.hid (fun W hW => (hW.cell (p := ⟨w.heap.size, 2, none⟩) lx).trans hc2)
  have hr0 := Below.refl w1.heap.size w1
  go_region_held3 (fun W => W.cell? ⟨w.heap.size, 2, none⟩ = some (.slice A NM.length c)) (first | (with_reducible exact HK.out _ hr0.drew) | (with_reducible exact HK.out _ hr0) | (with_reducible exact HK.out _ hb5)) (first
    | (go_at_call 100; refine (HL.out _).mono ?_; rintro e w5 ⟨rfl, hb5'⟩; have hb5 : Below w1.heap.size w1 w5 := hr0.drew.trans hb5')
    | (go_at_call 99; refine (HI.out _ (HX.out.below.trans (hb5.mono HX.out.below.size))).mono ?_; rintro e w6 ⟨rfl, hw6⟩; rw [hw6]; clear hw6))
  have HB5 := Lib.hid (HX.out.below.trans (hb5.mono HX.out.below.size))
  have c0 : w5.cell? ⟨w.heap.size, 0, none⟩ = some (.int .i64 (low : Int)) := (hb5.cell (p := ⟨w.heap.size, 0, none⟩) lx).trans (HX.out.cells 0)
  clear hc2 hr0 HK hb5
  go_wp2_with fail
  go_ret2
  exact ⟨rfl, HB5.out⟩

end Go.Proofs.YtlhaidibcocooaaGreatDoor
