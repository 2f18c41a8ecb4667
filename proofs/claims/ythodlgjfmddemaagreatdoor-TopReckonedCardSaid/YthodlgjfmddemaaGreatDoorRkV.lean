/- Decimals in memory: without the sign of 0. -/
import Derived.Test.YthodlgjfmddemaaGreatDoorRkU
import Derived.Test.YthodlgjfmddemaaGreatDoorTail
import Derived.ProofKit
namespace Go.Proofs.YthodlgjfmddemaaGreatDoor.Rk
open Go.RowKit

abbrev dcs (b : Bool) (nv : Value) (s : Nat) : Array Value := #[.bool b, nv, .int .i64 (s : Int)]
/-- v is the decimal d -/
def DecV (w : World) (v : Value) (d : Dec) : Prop := ∃ nv, v = .agg (dcs d.below nv d.scale) ∧ NL w nv d.n
theorem DecV.keep {w w' : World} {v : Value} {d : Dec} (h : DecV w v d) (hb : Below w.heap.size w w') : DecV w' v d := by
  obtain ⟨nv, rfl, h⟩ := h
  exact ⟨nv, rfl, h.keep hb⟩
def RetD (d : Dec) (w : World) (e : Ending) (w' : World) : Prop := ∃ v, e = .returned v ∧ DecV w' v d ∧ Below w.heap.size w w'
/-- a block of three cells -/
def B3 (w : World) (g : Nat) (x y z : Value) : Prop := w.heap[g]? = some (.cells #[x, y, z] 48 (0, 0))
theorem B3.cells {w : World} {g : Nat} {x y z : Value} (h : B3 w g x y z) : w.cell? ⟨g, 0, none⟩ = some x ∧ w.cell? ⟨g, 1, none⟩ = some y ∧ w.cell? ⟨g, 2, none⟩ = some z ∧ ∀ j, w.frozen? ⟨g, j, none⟩ = false := by
  unfold B3 at h
  refine ⟨?_, ?_, ?_, fun j => ?_⟩ <;> simp [World.cell?, World.frozen?, h]
theorem B3.new (w : World) (x y z : Value) : B3 (w.alloc (.cells #[x, y, z] 48)) w.heap.size x y z := heap_alloc_new w _
theorem B3.lt {w : World} {g : Nat} {x y z : Value} (h : B3 w g x y z) : g < w.heap.size := (Array.getElem?_eq_some_iff.1 h).1
theorem B3.below {w w' : World} {g : Nat} {x y z : Value} (h : B3 w g x y z) (hb : Below w.heap.size w w') : B3 w' g x y z := (hb.block g h.lt).trans h
theorem B3.alloc {w : World} {g : Nat} {x y z : Value} (h : B3 w g x y z) (o : Obj) : B3 (w.alloc o) g x y z := (Below.heap_alloc w o g h.lt).trans h
theorem B3.far {w : World} {g k i : Nat} {x y z u : Value} (h : B3 w g x y z) (hk : g ≠ k) : B3 (w.setCell ⟨k, i, none⟩ u) g x y z := (heap_setCell_other w ⟨k, i, none⟩ g u hk).trans h
theorem B3.set0 {w : World} {g : Nat} {x y z : Value} (h : B3 w g x y z) (u : Value) : B3 (w.setCell ⟨g, 0, none⟩ u) g u y z := by
  unfold B3 at h ⊢
  simp [World.setCell, Array.getElem?_modify, h]
theorem B3.set1 {w : World} {g : Nat} {x y z : Value} (h : B3 w g x y z) (u : Value) : B3 (w.setCell ⟨g, 1, none⟩ u) g x u z := by
  unfold B3 at h ⊢
  simp [World.setCell, Array.getElem?_modify, h]
theorem B3.set2 {w : World} {g : Nat} {x y z : Value} (h : B3 w g x y z) (u : Value) : B3 (w.setCell ⟨g, 2, none⟩ u) g x y u := by
  unfold B3 at h ⊢
  simp [World.setCell, Array.getElem?_modify, h]
theorem NL.len0 {w : World} {A : Option Addr} {n c x : Nat} (h : NL w (.slice A n c) x) : n = nl x := RL.len h
/-- no limb lies there -/
def NoU (w : World) (g : Nat) : Prop := ∀ (j : Nat) (k : Int), w.cell? ⟨g, j, none⟩ ≠ some (.int .u32 k)
theorem B3.noU {w : World} {g : Nat} {b : Bool} {A : Option Addr} {n c : Nat} {s : Int} (h : B3 w g (.bool b) (.slice A n c) (.int .i64 s)) : NoU w g := by
  intro j k e
  unfold B3 at h
  rw [cell_of_row w g j _ _ (0, 0) h] at e
  rcases j with _ | _ | _ | j
  · simp at e
  · simp at e
  · simp at e
  · simp at e
abbrev set3 (w : World) (g : Nat) (x y z : Value) : World := ((w.setCell ⟨g, 0, none⟩ x).setCell ⟨g, 1, none⟩ y).setCell ⟨g, 2, none⟩ z
theorem set3_heap (w : World) (g : Nat) (x y z : Value) (k : Nat) (hk : k ≠ g) : (set3 w g x y z).heap[k]? = w.heap[k]? :=
  ((heap_setCell_other _ ⟨g, 2, none⟩ k _ hk).trans (heap_setCell_other _ ⟨g, 1, none⟩ k _ hk)).trans (heap_setCell_other _ ⟨g, 0, none⟩ k _ hk)
theorem set3_size (w : World) (g : Nat) (x y z : Value) : (set3 w g x y z).heap.size = w.heap.size := by simp [set3, World.setCell]
theorem NL.set3 {w : World} {v : Value} {n g : Nat} {x y z : Value} (h : NL w v n) (hu : NoU w g) : NL (set3 w g x y z) v n := by
  obtain ⟨A, c, rfl, hc, hA, h⟩ := h
  refine ⟨A, c, rfl, hc, hA, fun h0 => ?_⟩
  obtain ⟨b, off, rfl, hb, hcell⟩ := h h0
  have hbg : b ≠ g := fun e => by
    subst e
    exact hu _ _ (hcell 0 h0)
  exact ⟨b, off, rfl, by rw [set3_size]; exact hb, fun j hj => (World.cell?_of_block (a := ⟨b, off + j, none⟩) (set3_heap w g x y z b hbg)).trans (hcell j hj)⟩
theorem NL.of_blocks {w w' : World} {v : Value} {n g : Nat} (h : NL w v n) (hu : NoU w g) (hk : ∀ k, k ≠ g → w'.heap[k]? = w.heap[k]?) (hs : w.heap.size ≤ w'.heap.size) : NL w' v n := by
  obtain ⟨A, c, rfl, hc, hA, h⟩ := h
  refine ⟨A, c, rfl, hc, hA, fun h0 => ?_⟩
  obtain ⟨b, off, rfl, hb, hcell⟩ := h h0
  have hbg : b ≠ g := fun e => by
    subst e
    exact hu _ _ (hcell 0 h0)
  exact ⟨b, off, rfl, Nat.lt_of_lt_of_le hb hs, fun j hj => (World.cell?_of_block (a := ⟨b, off + j, none⟩) (hk b hbg)).trans (hcell j hj)⟩
theorem set2_heap (w : World) (g i j : Nat) (x y : Value) (k : Nat) (hk : k ≠ g) : ((w.setCell ⟨g, i, none⟩ x).setCell ⟨g, j, none⟩ y).heap[k]? = w.heap[k]? :=
  (heap_setCell_other _ ⟨g, j, none⟩ k _ hk).trans (heap_setCell_other _ ⟨g, i, none⟩ k _ hk)
theorem set2_size (w : World) (g i j : Nat) (x y : Value) : w.heap.size ≤ ((w.setCell ⟨g, i, none⟩ x).setCell ⟨g, j, none⟩ y).heap.size := by simp [World.setCell]
theorem B3.set3 {w : World} {g : Nat} {a b c : Value} (h : B3 w g a b c) (x y z : Value) : B3 (set3 w g x y z) g x y z := ((h.set0 x).set1 y).set2 z
theorem below_set3 {B : Nat} {w0 w : World} {g : Nat} (h : Below B w0 w) (hg : B ≤ g) (x y z : Value) : Below B w0 (set3 w g x y z) := ((h.setCell (p := ⟨g, 0, none⟩) hg x).setCell (p := ⟨g, 1, none⟩) hg y).setCell (p := ⟨g, 2, none⟩) hg z
/-- the result is laid -/
theorem ret3 {w0 w : World} {g n s : Nat} {b : Bool} {a1 a2 a3 nv : Value} {d : Dec} (h : B3 w g a1 a2 a3) (hu : NoU w g) (hn : NL w nv n) (hb : Below w0.heap.size w0 w) (hg : w0.heap.size ≤ g) (hd : d = ⟨b, n, s⟩) :
    B3 (set3 w g (.bool b) nv (.int .i64 (s : Int))) g (.bool b) nv (.int .i64 (s : Int)) ∧ RetD d w0 (.returned (.agg (dcs b nv s))) (set3 w g (.bool b) nv (.int .i64 (s : Int))) := by
  subst hd
  exact ⟨h.set3 _ _ _, _, rfl, ⟨_, rfl, hn.set3 hu⟩, below_set3 hb hg _ _ _⟩
set_option maxRecDepth 100000 in
set_option maxHeartbeats 1600000 in
theorem clean_any (v : Value) (d : Dec) (w : World) (hv : DecV w v d) :
    Calls Tryz.prog 35 #[v] w (RetD d.clean w) := by
  obtain ⟨nv, rfl, hn⟩ := hv
  obtain ⟨b, n, s⟩ := d
  obtain ⟨A, c, rfl, _, _⟩ := RL.form hn
  have HN := Lib.hid hn
  obtain ⟨m, hm⟩ : ∃ m, m = nl n := ⟨_, rfl⟩
  dsimp only at hn hm HN ⊢
  rw [← hm] at HN ⊢
  have hb2 : ∀ x y z x2 y2 z2, Below w.heap.size w ((w.alloc (.cells #[x, y, z] 48)).alloc (.cells #[x2, y2, z2] 48)) := fun _ _ _ _ _ _ => ((Below.refl _ _).alloc (Nat.le_refl _) _).alloc (by simp) _
  have HB := Lib.hid hb2
  have HM := Lib.hid hm
  clear hb2 hm hn
  cases b with
  | false =>
    go_enter Tryz.func35, Tryz.ntmps35
    go_wp2_with fail
    exact bodyPost_ret (v := .agg (dcs false (.slice A m c) s)) (by simp [results, Tryz.results35, go_sem]) rfl ⟨_, rfl, ⟨_, rfl, HN.out.keep (HB.out _ _ _ _ _ _)⟩, HB.out _ _ _ _ _ _⟩
  | true =>
    by_cases h0 : n = 0
    · have hz : m = 0 := by rw [HM.out]; exact nl_eq_zero.2 h0
      have HE := Lib.hid (show (⟨true, n, s⟩ : Dec).clean = ⟨false, n, s⟩ by unfold Dec.clean; simp [h0])
      rw [hz] at HN ⊢
      clear hz h0 HM
      go_enter Tryz.func35, Tryz.ntmps35
      go_wp2_with fail
      exact bodyPost_ret (v := .agg (dcs false (.slice A 0 c) s)) (by simp [results, Tryz.results35, go_sem]) rfl ⟨_, rfl, by rw [HE.out]; exact ⟨_, rfl, HN.out.keep (HB.out _ _ _ _ _ _)⟩, HB.out _ _ _ _ _ _⟩
    · have hpos : 0 < m := by rw [HM.out]; exact Nat.pos_of_ne_zero (fun h => h0 (nl_eq_zero.1 h))
      have hz : (m : Int) > 0 := by omega
      have HE := Lib.hid (show (⟨true, n, s⟩ : Dec).clean = ⟨true, n, s⟩ by unfold Dec.clean; simp [h0])
      clear h0 HM
      go_enter Tryz.func35, Tryz.ntmps35
      go_wp2_with fail
      exact bodyPost_ret (v := .agg (dcs true (.slice A m c) s)) (by simp [results, Tryz.results35, go_sem]) rfl ⟨_, rfl, by rw [HE.out]; exact ⟨_, rfl, HN.out.keep (HB.out _ _ _ _ _ _)⟩, HB.out _ _ _ _ _ _⟩
set_option maxRecDepth 100000 in
set_option maxHeartbeats 1600000 in
theorem negated_any (v : Value) (d : Dec) (w : World) (hv : DecV w v d) :
    Calls Tryz.prog 29 #[v] w (RetD d.neg w) := by
  obtain ⟨nv, rfl, hn⟩ := hv
  obtain ⟨b, n, s⟩ := d
  have HN := Lib.hid hn
  dsimp only at HN ⊢
  have hb2 : ∀ x y z x2 y2 z2, Below w.heap.size w ((w.alloc (.cells #[x, y, z] 48)).alloc (.cells #[x2, y2, z2] 48)) := fun _ _ _ _ _ _ => ((Below.refl _ _).alloc (Nat.le_refl _) _).alloc (by simp) _
  have HB := Lib.hid hb2
  obtain ⟨D, hD⟩ : ∃ D, D = Dec.neg ⟨b, n, s⟩ := ⟨_, rfl⟩
  have HC := Lib.hid (fun v W (h : DecV W v ⟨!b, n, s⟩) => (hD ▸ clean_any v ⟨!b, n, s⟩ W h : Calls Tryz.prog 35 #[v] W (RetD D W)))
  rw [← hD]
  clear hn hb2 hD
  go_enter Tryz.func29, Tryz.ntmps29
  go_wp2_with fail
  refine (HC.out _ _ ⟨_, rfl, HN.out.keep (HB.out _ _ _ _ _ _)⟩).mono ?_
  rintro e w2 ⟨v2, rfl, ⟨nv2, rfl, hn2⟩, hb2⟩
  obtain ⟨A2, c2, rfl, _, _⟩ := RL.form hn2
  have hr := (B3.new (w.alloc (.cells #[.bool !b, nv, .int .i64 (s : Int)] 48)) (.bool false) (.slice none 0 0) (.int .i64 0)).below hb2
  have HR := Lib.hid (ret3 (w0 := w) (d := D) hr hr.noU hn2 ((HB.out _ _ _ _ _ _).trans (hb2.mono (by simp; omega))) (by simp) rfl)
  obtain ⟨k0, k1, k2, kf⟩ := hr.cells
  have hsz : (w.alloc (.cells #[.bool !b, nv, .int .i64 (s : Int)] 48)).heap.size = w.heap.size + 1 := by simp
  rw [hsz] at k0 k1 k2 kf HR
  clear hr hn2 hb2 hsz
  go_wp2_with fail
  obtain ⟨r0, r1, r2, _⟩ := HR.out.1.cells
  exact bodyPost_ret (v := .agg (dcs D.below (.slice A2 (nl D.n) c2) D.scale)) (by simp [results, Tryz.results29, go_sem, r0, r1, r2]) rfl HR.out.2
end Go.Proofs.YthodlgjfmddemaaGreatDoor.Rk
