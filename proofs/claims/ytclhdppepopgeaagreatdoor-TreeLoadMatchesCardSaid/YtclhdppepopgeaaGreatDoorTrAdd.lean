/- The tree's lists: isDir, add, put of a place. (Printed by tools/gtradd.py.) -/
import Derived.Test.YtclhdppepopgeaaGreatDoorTrCore
import Derived.StillTailTactics
import Derived.Test.YtclhdppepopgeaaGreatDoorTail
namespace Go.Proofs.YtclhdppepopgeaaGreatDoor
open Go.RowKit

set_option maxRecDepth 100000 in
set_option maxHeartbeats 3200000 in
theorem isDir_any (b : Nat) (k : Int) (w : World) (h : w.cell? ⟨b, 2, none⟩ = some (.int .i64 k)) :
    Calls Tryz.prog 39 #[ptr b] w fun e w' => e = .returned (.bool (k == 2)) ∧ w' = w := by
  go_enter Tryz.func39, Tryz.ntmps39
  go_wp2_with fail
  go_ret
  exact ⟨rfl, rfl⟩

/-- a tree's cells -/
abbrev trC (mn n : Nat) (ch vs : Value) : Array Value := #[.map (some mn), .int .i64 (n : Int), ch, vs]
abbrev trZ (mn : Nat) (z : Int) (ch vs : Value) : Array Value := #[.map (some mn), .int .i64 z, ch, vs]
abbrev ndZ (z : Int) (d : ND) (ev : Value) : Array Value := #[.int .i64 z, .int .i64 0, .int .i64 d.kind, .int .i64 d.mode, .int .i64 d.user, .int .i64 d.group, .int .i64 d.changed, .int .i64 0, .int .i64 0, .int .i64 0, .string d.data, ev]
/-- a node's cells before it has a number -/
abbrev rawC (d : ND) : Array Value := #[.int .i64 0, .int .i64 0, .int .i64 d.kind, .int .i64 d.mode, .int .i64 d.user, .int .i64 d.group, .int .i64 d.changed, .int .i64 0, .int .i64 0, .int .i64 0, .string d.data, .map none]

set_option maxRecDepth 100000 in
set_option maxHeartbeats 6400000 in
theorem add_any (d : ND) (t mn n x : Nat) (ch vs : Value) (L : List (Int × Value)) (w : World) (ht : w.heap[t]? = some (.cells (trC mn n ch vs) 67 (0, 0))) (hm : MapAt w mn (iL L)) (hL : getI L ((n + 1 : Nat) : Int) = none)
    (hx : w.heap[x]? = some (.cells (rawC d) 70 (0, 0))) (hn : n ≤ 5000) :
    Calls Tryz.prog 41 #[ptr t, ptr x] w fun e w' => ∃ eb : Nat, e = .returned (ptr x) ∧ w'.heap[t]? = some (.cells (trC mn (n + 1) ch vs) 67 (0, 0)) ∧ MapAt w' mn (iL (L ++ [(((n + 1 : Nat) : Int), ptr x)])) ∧
      w'.heap[x]? = some (.cells (ndCells n d 0 0 (evV d eb)) 70 (0, 0)) ∧ (dirK d = true → w.heap.size ≤ eb ∧ MapAt w' eb []) ∧ Fx (fun b => b = t ∨ b = mn ∨ b = x) w w' := by
  have htx : x ≠ t := fun e => by rw [e, ht] at hx; injection hx with hx; injection hx with _ hx; cases hx
  have hmt : mn ≠ t := fun e => by unfold MapAt at hm; rw [e, ht] at hm; injection hm with hm; cases hm
  have hmx : mn ≠ x := fun e => by unfold MapAt at hm; rw [e, hx] at hm; injection hm with hm; cases hm
  obtain ⟨z, hz⟩ : ∃ z : Int, z = ((n + 1 : Nat) : Int) := ⟨_, rfl⟩
  have hz1 : IntKind.i64.wrap ((n : Int) + 1) = z := by rw [hz]; exact IntWalk.i64_in _ (by omega)
  rw [← hz] at hL
  have HZ := Lib.hid hz
  clear hz
  have t1 : w.cell? ⟨t, 1, none⟩ = some (.int .i64 (n : Int)) := by simp [World.cell?, ht]
  have t1f : w.frozen? ⟨t, 1, none⟩ = false := by simp [World.frozen?, ht]
  obtain ⟨w1, hw1⟩ : ∃ z', z' = w.setCell ⟨t, 1, none⟩ (.int .i64 z) := ⟨_, rfl⟩
  have ht1 : w1.heap[t]? = some (.cells (trZ mn z ch vs) 67 (0, 0)) := by rw [hw1]; exact heap_setCell_same w t 1 _ _ _ ht
  have hF1 : Fx (fun b => b = t ∨ b = mn ∨ b = x) w w1 := by rw [hw1]; exact Fx.setCell w (.inl rfl) 1 _
  have hx1 : w1.heap[x]? = some (.cells (rawC d) 70 (0, 0)) := by rw [hw1]; exact (heap_setCell_other w ⟨t, 1, none⟩ x _ htx).trans hx
  have hm1 : MapAt w1 mn (iL L) := by rw [hw1]; exact (heap_setCell_other w ⟨t, 1, none⟩ mn _ hmt).trans hm
  have a1 : w1.cell? ⟨t, 1, none⟩ = some (.int .i64 z) := by simp [World.cell?, ht1]
  have x0 : w1.cell? ⟨x, 0, none⟩ = some (.int .i64 0) := by simp [World.cell?, hx1]
  have x0f : w1.frozen? ⟨x, 0, none⟩ = false := by simp [World.frozen?, hx1]
  obtain ⟨w2, hw2⟩ : ∃ z', z' = w1.setCell ⟨x, 0, none⟩ (.int .i64 z) := ⟨_, rfl⟩
  have hx2 : w2.heap[x]? = some (.cells (ndZ z d (.map none)) 70 (0, 0)) := by rw [hw2]; exact heap_setCell_same w1 x 0 _ _ _ hx1
  have ht2 : w2.heap[t]? = some (.cells (trZ mn z ch vs) 67 (0, 0)) := by rw [hw2]; exact (heap_setCell_other w1 ⟨x, 0, none⟩ t _ (fun e => htx e.symm)).trans ht1
  have hm2 : MapAt w2 mn (iL L) := by rw [hw2]; exact (heap_setCell_other w1 ⟨x, 0, none⟩ mn _ hmx).trans hm1
  have hF2 : Fx (fun b => b = t ∨ b = mn ∨ b = x) w w2 := by rw [hw2]; exact hF1.trans (Fx.setCell w1 (.inr (.inr rfl)) 0 _)
  have x2 : w2.cell? ⟨x, 2, none⟩ = some (.int .i64 d.kind) := by simp [World.cell?, hx2, ndZ]
  have HD := Lib.hid (isDir_any x d.kind w2 x2)
  have HW1 : Hid (w.setCell ⟨t, 1, none⟩ (.int .i64 z) = w1) := Lib.hid hw1.symm
  have HW2 : Hid (w1.setCell ⟨x, 0, none⟩ (.int .i64 z) = w2) := Lib.hid hw2.symm
  have HX2 := Lib.hid hx2
  have HT2 := Lib.hid ht2
  have HM2 := Lib.hid hm2
  have HF2 := Lib.hid hF2
  have HSZ : Hid (w.heap.size ≤ w2.heap.size) := Lib.hid hF2.b0.size
  have HNE : Hid (x ≠ t ∧ mn ≠ t ∧ mn ≠ x) := Lib.hid ⟨htx, hmt, hmx⟩
  clear hw1 hw2 hx2 ht2 hm2 hF2 hF1 ht1 hm1 hx1 ht hm hx x2 htx hmt hmx
  go_enter Tryz.func41, Tryz.ntmps41
  go_upto_region 2 with fail
  rw [HW1.out]
  clear t1 t1f
  go_upto_region 3 with fail
  rw [HW2.out]
  clear a1 x0 x0f
  go_wp2_with fail
  refine HD.out.mono ?_
  rintro e w3 ⟨rfl, rfl⟩
  -- the world before the map of the nodes is written
  obtain ⟨bk, hbk⟩ : ∃ b, b = (d.kind == 2) := ⟨_, rfl⟩
  rw [← hbk]
  have hbd : dirK d = bk := hbk.symm
  have HBD := Lib.hid hbd
  clear hbk hbd
  go_upto_if 20 with fail
  go_cut [] from 21 to 25 (fun wx => ∃ eb : Nat, Hid (wx.heap[x]? = some (.cells (ndZ z d (evV d eb)) 70 (0, 0))) ∧ Hid (wx.heap[t]? = some (.cells (trZ mn z ch vs) 67 (0, 0))) ∧ Hid (MapAt wx mn (iL L)) ∧ Hid (dirK d = true → w.heap.size ≤ eb ∧ MapAt wx eb [] ∧ eb ≠ mn) ∧ Hid (Fx (fun b => b = t ∨ b = mn ∨ b = x) w wx))
  case first =>
    cases bk with
    | false =>
      have hev : ∀ eb, evV d eb = .map none := fun eb => by unfold evV; rw [HBD.out]; rfl
      have HE : Hid (evV d 0 = .map none) := Lib.hid (hev 0)
      have HF : Hid (dirK d = true → False) := Lib.hid (fun h => by rw [HBD.out] at h; cases h)
      clear hev
      go_wp2_with fail
      go_meet
      exact ⟨0, by rw [HE.out]; exact HX2, HT2, HM2, Lib.hid (fun h => absurd h HF.out), HF2⟩
    | true =>
      have HE : Hid (∀ eb, evV d eb = .map (some eb)) := Lib.hid (fun eb => by unfold evV; rw [HBD.out]; rfl)
      obtain ⟨r0, hr0⟩ : ∃ r, r = w3.heap.size := ⟨_, rfl⟩
      obtain ⟨w4, hw4⟩ : ∃ z', z' = w3.alloc (.map #[] 0) := ⟨_, rfl⟩
      have hx4 : w4.heap[x]? = some (.cells (ndZ z d (.map none)) 70 (0, 0)) := by rw [hw4]; exact (Below.heap_alloc _ _ _ (Array.getElem?_eq_some_iff.1 HX2.out).1).trans HX2.out
      have ht4 : w4.heap[t]? = some (.cells (trZ mn z ch vs) 67 (0, 0)) := by rw [hw4]; exact (Below.heap_alloc _ _ _ (Array.getElem?_eq_some_iff.1 HT2.out).1).trans HT2.out
      have hm4 : MapAt w4 mn (iL L) := by rw [hw4]; exact (Below.heap_alloc _ _ _ HM2.out.lt).trans HM2.out
      have hr4 : MapAt w4 r0 [] := by rw [hw4, hr0]; exact MapAt.new w3
      have hF4 : Fx (fun b => b = t ∨ b = mn ∨ b = x) w w4 := by rw [hw4]; exact HF2.out.trans (Fx.alloc _ _ _)
      have x11 : w4.cell? ⟨x, 11, none⟩ = some (.map none) := by simp [World.cell?, hx4, ndZ]
      have x11f : w4.frozen? ⟨x, 11, none⟩ = false := by simp [World.frozen?, hx4]
      have hxr : r0 ≠ x := fun e => by
        have := hr4
        unfold MapAt at this
        rw [e, hx4] at this
        injection this with this
        cases this
      have hrm : r0 ≠ mn := fun e => by have := HM2.out.lt; omega
      have hrw : w.heap.size ≤ r0 := by rw [hr0]; exact HSZ.out
      obtain ⟨w5, hw5⟩ : ∃ z', z' = w4.setCell ⟨x, 11, none⟩ (.map (some r0)) := ⟨_, rfl⟩
      have HX5 : Hid (w5.heap[x]? = some (.cells (ndZ z d (evV d r0)) 70 (0, 0))) := Lib.hid (by rw [HE.out, hw5]; exact heap_setCell_same w4 x 11 _ _ _ hx4)
      have HT5 : Hid (w5.heap[t]? = some (.cells (trZ mn z ch vs) 67 (0, 0))) := Lib.hid (by rw [hw5]; exact (heap_setCell_other w4 ⟨x, 11, none⟩ t _ (fun e => HNE.out.1 e.symm)).trans ht4)
      have HM5 : Hid (MapAt w5 mn (iL L)) := Lib.hid (by rw [hw5]; exact (heap_setCell_other w4 ⟨x, 11, none⟩ mn _ HNE.out.2.2).trans hm4)
      have HR5 : Hid (dirK d = true → w.heap.size ≤ r0 ∧ MapAt w5 r0 [] ∧ r0 ≠ mn) := Lib.hid (fun _ => ⟨hrw, by rw [hw5]; exact (heap_setCell_other w4 ⟨x, 11, none⟩ r0 _ hxr).trans hr4, hrm⟩)
      have HF5 : Hid (Fx (fun b => b = t ∨ b = mn ∨ b = x) w w5) := Lib.hid (by rw [hw5]; exact hF4.trans (Fx.setCell w4 (.inr (.inr rfl)) 11 _))
      have HE4 : Hid (w3.alloc (.map #[] 0) = w4) := Lib.hid hw4.symm
      have HE5 : Hid (w4.setCell ⟨x, 11, none⟩ (.map (some r0)) = w5) := Lib.hid hw5.symm
      have HR0 : Hid (w3.heap.size = r0) := Lib.hid hr0.symm
      clear hx4 ht4 hm4 hr4 hF4 hxr hrm hrw hw5 hr0
      rw [hw4] at x11 x11f
      clear hw4
      have hmm := @run_makeMap Tryz.prog
      go_wp2_with fail
      go_meet
      rw [HR0.out, HE4.out, HE5.out]
      exact ⟨r0, HX5, HT5, HM5, HR5, HF5⟩
  case rest =>
    obtain ⟨eb, H1, H2, H3, H4, H5⟩ := hcut
    have a0 : wc.cell? ⟨t, 0, none⟩ = some (.map (some mn)) := by have := H2.out; simp [World.cell?, this]
    have a1 : wc.cell? ⟨x, 0, none⟩ = some (.int .i64 z) := by have := H1.out; simp [World.cell?, this, ndZ]
    go_upto_region 5 with fail
    go_still_tail 9, (by kernel_rfl)
    have hmu : ∀ w' : World, w' = wc.drew → (Instr.mapUpdate 64 (.map (some mn)) (.int .i64 z) (ptr x)).run Tryz.prog w' = .ok () (hset wc.drew mn (.map (mEs 0 (iL (L ++ [(z, ptr x)]))).toArray (iL (L ++ [(z, ptr x)])).length)) := fun w' hw' => by
      subst hw'
      obtain ⟨w6, h6, rfl⟩ := put_i (P := Tryz.prog) mapN undI (show MapAt wc.drew mn (iL L) from H3.out) z (ptr x) hL
      exact h6
    change wpList _ _ _ _ _ wc.drew
    have HG : Hid (∀ L2 : List (Int × Value), ∀ W, W = hset wc.drew mn (.map (mEs 0 (iL L2)).toArray (iL L2).length) → L2 = L ++ [(z, ptr x)] → W.heap[t]? = some (.cells (trZ mn z ch vs) 67 (0, 0)) ∧ MapAt W mn (iL (L ++ [(z, ptr x)])) ∧ W.heap[x]? = some (.cells (ndZ z d (evV d eb)) 70 (0, 0)) ∧ (dirK d = true → w.heap.size ≤ eb ∧ MapAt W eb []) ∧ Fx (fun b => b = t ∨ b = mn ∨ b = x) w W) := Lib.hid (fun L2 W hW hL2 => by
      subst hL2
      rw [hW]
      have h3 : MapAt wc.drew mn (iL L) := H3.out
      refine ⟨(hset_other (fun e => HNE.out.2.1 e.symm)).trans H2.out, h3.put, (hset_other (fun e => HNE.out.2.2 e.symm)).trans H1.out, fun hd => ⟨(H4.out hd).1, ?_⟩, (H5.out.trans (Fx.drew _ _)).trans (Fx.hset _ (.inr (.inl rfl)) _)⟩
      exact (hset_other (H4.out hd).2.2).trans (H4.out hd).2.1)
    obtain ⟨ob, hob⟩ : ∃ ob, ob = Obj.map (mEs 0 (iL (L ++ [(z, ptr x)]))).toArray (iL (L ++ [(z, ptr x)])).length := ⟨_, rfl⟩
    have HG2 := Lib.hid (HG.out (L ++ [(z, ptr x)]) (hset wc.drew mn ob) (by rw [hob]) rfl)
    rw [← hob] at hmu
    clear hob HG
    generalize wc.drew = wd at *
    have hmu2 := hmu wd rfl
    obtain ⟨wE, hwE⟩ : ∃ wE, wE = hset wd mn ob := ⟨_, rfl⟩
    rw [← hwE] at hmu2 HG2
    clear hmu hwE
    go_wp2_with fail
    go_ret
    obtain ⟨g1, g2, g3, g4, g5⟩ := HG2.out
    rw [← HZ.out]
    have hz0 := HZ.out
    subst hz0
    exact ⟨eb, rfl, g1, g2, g3, g4, g5⟩
end Go.Proofs.YtclhdppepopgeaaGreatDoor
