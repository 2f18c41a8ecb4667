/- Decimals in memory: how many digits, and the text. -/
import Derived.Test.YthodlgjfmddemaaGreatDoorRkZe
namespace Go.Proofs.YthodlgjfmddemaaGreatDoor.Rk
open Go.RowKit

theorem box1 (w : World) (x y z : Value) : Below w.heap.size w (w.alloc (.cells #[x, y, z] 48)) := (Below.refl _ _).alloc (Nat.le_refl _) _
def SizeP (d : Dec) (w : World) (x : Ending) (w' : World) : Prop := x = .returned (.int .i64 (d.size : Int)) ∧ Below w.heap.size w w'
set_option maxRecDepth 100000 in
set_option maxHeartbeats 3200000 in
theorem dsize_any (u : Value) (d : Dec) (w : World) (hu : DecV w u d) (hp : Pow w) (hl : (digs d.n).length ≤ 140737488355328) (hn : nl d.n ≤ 140737488355328) (hs : d.scale ≤ 140737488355328) :
    Calls Tryz.prog 14 #[u] w (SizeP d w) := by
  obtain ⟨nu, rfl, hnu⟩ := hu
  obtain ⟨A, c, rfl, _, _⟩ := RL.form hnu
  obtain ⟨w1, hw1⟩ : ∃ w1, w1 = w.alloc (.cells #[.bool d.below, .slice A (nl d.n) c, .int .i64 (d.scale : Int)] 48) := ⟨_, rfl⟩
  have hb1 : Below w.heap.size w w1 := by rw [hw1]; exact box1 _ _ _ _
  have h3 : B3 w1 w.heap.size (.bool d.below) (.slice A (nl d.n) c) (.int .i64 (d.scale : Int)) := by rw [hw1]; exact B3.new w _ _ _
  obtain ⟨g, hg⟩ : ∃ g, g = w.heap.size := ⟨_, rfl⟩
  rw [← hg] at h3
  have hgl := h3.lt
  obtain ⟨a0, a1, a2, _⟩ := h3.cells
  obtain ⟨L, hL⟩ : ∃ L, L = digs d.n := ⟨_, rfl⟩
  have HDg := Lib.hid (fun W h1 h2 => digits_any (.slice A (nl d.n) c) d.n W h1 h2 hl hn)
  rw [← hL] at HDg hl
  have hsz := toB_size L
  obtain ⟨m, hm⟩ : ∃ m, m = d.size := ⟨_, rfl⟩
  have e1 : IntKind.i64.wrap ((d.scale : Int) + 1) = (d.scale : Int) + 1 := IntWalk.i64_in _ (by omega)
  have e2 : max (L.length : Int) ((d.scale : Int) + 1) = (m : Int) := by rw [hm]; unfold Dec.size; rw [← hL]; omega
  have HM := Lib.hid (show SizeP d w = fun x w' => x = .returned (.int .i64 (m : Int)) ∧ Below w.heap.size w w' by unfold SizeP; rw [hm])
  rw [HM.out]
  have HW1 := Lib.hid hw1
  have HG := Lib.hid hg
  have HN := Lib.hid (hnu.keep hb1)
  have HP := Lib.hid (hp.keep hb1)
  have HB := Lib.hid hb1
  clear hw1 hg hnu hp hb1 h3 hL hm hn hs
  go_enter Tryz.func14, Tryz.ntmps14
  go_upto_region 1 with fail
  rw [← HW1.out, ← HG.out]
  go_region_with (go_at_call 31; refine (HDg.out _ HN.out.drew (HP.out.keep (below_drewN (Below.refl _ w1) 1))).mono ?_; rintro x w2 ⟨rfl, hb2⟩; have hx2 := (hb2.cell (p := ⟨g, 2, none⟩) hgl).trans a2)
  all_goals
    have HF := Lib.hid (HB.out.trans (((below_drewN (Below.refl _ w1) 1).trans hb2).mono HB.out.size))
    clear hb2 hx2
    go_wp2_with fail
    go_ret
    exact ⟨rfl, HF.out⟩
end Go.Proofs.YthodlgjfmddemaaGreatDoor.Rk
