/- The tree's lists, the reference: a node in memory, a new node, an entry. -/
import Derived.Test.YtclhdppepopgeaaGreatDoorTrCore
import Derived.StillTailTactics
namespace Go.Proofs.YtclhdppepopgeaaGreatDoor
open Go.RowKit

/-- the reference's node: its number, what it is, its volume, its names, what it lies in, how many names it has -/
def rnCells (vo i : Nat) (d : ND) (ev up : Value) (links : Int) : Array Value :=
  #[.int .i64 ((i + 1 : Nat) : Int), .int .i64 d.kind, .int .i64 d.mode, .int .i64 d.user, .int .i64 d.group, ptr vo, .string d.data, ev, up, .int .i64 links, .int .i64 0, .int .i64 d.changed, .pointer none]
def RNode (vo : Nat) (w : World) (b i : Nat) (d : ND) (ev : Value) : Prop := ∃ (up : Value) (links : Int), w.heap[b]? = some (.cells (rnCells vo i d ev up links) 55 (0, 0))
theorem RNode.cellar {vo : Nat} {w : World} {b i : Nat} {d : ND} {ev : Value} (h : RNode vo w b i d ev) : Cellar w b := by
  obtain ⟨_, _, h⟩ := h
  exact ⟨_, _, h⟩
theorem rnodeOk (vo : Nat) : NAok (RNode vo) := ⟨fun h e => by obtain ⟨a, b, h⟩ := h; exact ⟨a, b, e.trans h⟩, fun h => h.cellar⟩
theorem RNode.cells {vo : Nat} {w : World} {b i : Nat} {d : ND} {ev : Value} (h : RNode vo w b i d ev) : w.cell? ⟨b, 0, none⟩ = some (.int .i64 ((i + 1 : Nat) : Int)) ∧ w.cell? ⟨b, 1, none⟩ = some (.int .i64 d.kind) ∧ w.cell? ⟨b, 2, none⟩ = some (.int .i64 d.mode) ∧ w.cell? ⟨b, 3, none⟩ = some (.int .i64 d.user) ∧ w.cell? ⟨b, 4, none⟩ = some (.int .i64 d.group) ∧ w.cell? ⟨b, 5, none⟩ = some (ptr vo) ∧ w.cell? ⟨b, 6, none⟩ = some (.string d.data) ∧ w.cell? ⟨b, 7, none⟩ = some ev ∧ w.cell? ⟨b, 11, none⟩ = some (.int .i64 d.changed) := by
  obtain ⟨_, _, h⟩ := h
  refine ⟨?_, ?_, ?_, ?_, ?_, ?_, ?_, ?_, ?_⟩ <;> simp [World.cell?, h, rnCells]
theorem RNode.links {vo : Nat} {w : World} {b i : Nat} {d : ND} {ev : Value} (h : RNode vo w b i d ev) : ∃ n : Int, w.cell? ⟨b, 9, none⟩ = some (.int .i64 n) ∧ w.frozen? ⟨b, 9, none⟩ = false ∧ ∀ z : Int, RNode vo (w.setCell ⟨b, 9, none⟩ (.int .i64 z)) b i d ev := by
  obtain ⟨n, p, h⟩ := h
  exact ⟨p, by simp [World.cell?, h, rnCells], by simp [World.frozen?, h], fun z => ⟨n, z, heap_setCell_same w b 9 _ _ _ h⟩⟩
theorem RNode.up {vo : Nat} {w : World} {b i : Nat} {d : ND} {ev : Value} (h : RNode vo w b i d ev) : ∃ n : Value, w.cell? ⟨b, 8, none⟩ = some n ∧ w.frozen? ⟨b, 8, none⟩ = false ∧ ∀ z : Value, RNode vo (w.setCell ⟨b, 8, none⟩ z) b i d ev := by
  obtain ⟨n, p, h⟩ := h
  exact ⟨n, by simp [World.cell?, h, rnCells], by simp [World.frozen?, h], fun z => ⟨z, p, heap_setCell_same w b 8 _ _ _ h⟩⟩
theorem rmapN : Tryz.prog.underlying 49 = some (.map 3 45) := by kernel_rfl
theorem rmapE : Tryz.prog.underlying 53 = some (.map 9 45) := by kernel_rfl
theorem rzeroP (w : World) : (zeroValue 45).run Tryz.prog w = .ok (.pointer none) w := by kernel_rfl

/-- a file system's cells -/
abbrev flC (mn n : Nat) (ch vs : Value) : Array Value := #[.map (some mn), .int .i64 ((n + 1 : Nat) : Int), ch, vs]
abbrev flZ (mn : Nat) (z : Int) (ch vs : Value) : Array Value := #[.map (some mn), .int .i64 z, ch, vs]
abbrev rnZ (vo : Nat) (z k m u g : Int) (t : ByteArray) (ev : Value) : Array Value := #[.int .i64 z, .int .i64 k, .int .i64 m, .int .i64 u, .int .i64 g, ptr vo, .string t, ev, .pointer none, .int .i64 0, .int .i64 0, .int .i64 0, .pointer none]

/-- what is new may be changed -/
theorem Fx.newer {S : Nat → Prop} {w w1 w2 : World} (h : Fx S w w1) (k : Fx (fun b => w.heap.size ≤ b ∨ S b) w1 w2) : Fx S w w2 :=
  ⟨h.b0.trans k.b0, fun b hb hn => (k.block b (Nat.lt_of_lt_of_le hb h.b0.size) (fun hs => by
    rcases hs with hs | hs
    · omega
    · exact hn hs)).trans (h.block b hb hn)⟩
set_option maxRecDepth 100000 in
set_option maxHeartbeats 3200000 in
theorem rnode_any (k m u g : Int) (data : ByteArray) (t mn n vo : Nat) (ch vs : Value) (L : List (Int × Value)) (w : World) (ht : w.heap[t]? = some (.cells (flC mn n ch vs) 52 (0, 0))) (hm : MapAt w mn (iL L)) (hL : getI L ((n + 1 : Nat) : Int) = none) (hn : n ≤ 5000) :
    Calls Tryz.prog 15 #[ptr t, .int .i64 k, .int .i64 m, .int .i64 u, .int .i64 g, ptr vo, .string data] w fun e w' => ∃ eb y : Nat, e = .returned (ptr y) ∧ w'.heap[t]? = some (.cells (flC mn (n + 1) ch vs) 52 (0, 0)) ∧ MapAt w' mn (iL (L ++ [(((n + 1 : Nat) : Int), ptr y)])) ∧
      w'.heap[y]? = some (.cells (rnCells vo n ⟨k, m, u, g, data, 0⟩ (evV ⟨k, m, u, g, data, 0⟩ eb) (.pointer none) 0) 55 (0, 0)) ∧ (k = 2 → w.heap.size ≤ eb ∧ MapAt w' eb []) ∧ w.heap.size ≤ y ∧ Fx (fun b => b = t ∨ b = mn) w w' := by
  have hmt : mn ≠ t := fun e => by unfold MapAt at hm; rw [e, ht] at hm; injection hm with hm; cases hm
  obtain ⟨z, hz⟩ : ∃ z : Int, z = ((n + 1 : Nat) : Int) := ⟨_, rfl⟩
  obtain ⟨z2, hz2⟩ : ∃ z : Int, z = ((n + 1 + 1 : Nat) : Int) := ⟨_, rfl⟩
  have hzw : IntKind.i64.wrap (z + 1) = z2 := by rw [hz, hz2]; exact IntWalk.i64_in _ (by omega)
  unfold flC at ht
  rw [← hz] at hL ht
  have HZ := Lib.hid hz
  have HZ2 := Lib.hid hz2
  clear hz hz2
  have t1 : w.cell? ⟨t, 1, none⟩ = some (.int .i64 z) := by simp [World.cell?, ht]
  obtain ⟨y, hy⟩ : ∃ y, y = w.heap.size := ⟨_, rfl⟩
  obtain ⟨w2, hw2⟩ : ∃ z', z' = w.alloc (.cells (rnZ vo z k m u g data (.map none)) 55) := ⟨_, rfl⟩
  have hb2 : Below w.heap.size w w2 := by rw [hw2]; exact (Below.refl _ w).alloc (Nat.le_refl _) _
  have HX2 : Hid (w2.heap[y]? = some (.cells (rnZ vo z k m u g data (.map none)) 55 (0, 0))) := Lib.hid (by rw [hw2, hy]; exact heap_alloc_new w _)
  have HT2 : Hid (w2.heap[t]? = some (.cells (flZ mn z ch vs) 52 (0, 0))) := Lib.hid ((hb2.block t (Array.getElem?_eq_some_iff.1 ht).1).trans ht)
  have HM2 := Lib.hid (hm.keep hb2)
  have HF2 : Hid (Fx (fun b => b = t ∨ b = mn) w w2) := Lib.hid (Fx.of_below hb2)
  have HSZ : Hid (w.heap.size ≤ w2.heap.size ∧ mn < y ∧ t < y) := Lib.hid ⟨hb2.size, by have := hm.lt; omega, by have := (Array.getElem?_eq_some_iff.1 ht).1; omega⟩
  have HY : Hid (w.heap.size = y) := Lib.hid hy.symm
  have HW2 : Hid (w.alloc (.cells (rnZ vo z k m u g data (.map none)) 55) = w2) := Lib.hid hw2.symm
  have HMT : Hid (mn ≠ t) := Lib.hid hmt
  clear ht hm hmt hb2 hy hw2
  go_enter Tryz.func15, Tryz.ntmps15
  go_upto_region 2 with fail
  rw [HY.out, HW2.out]
  obtain ⟨bk, hbk⟩ : ∃ b, b = (k == 2) := ⟨_, rfl⟩
  have HBD : Hid (dirK ⟨k, m, u, g, data, 0⟩ = bk) := Lib.hid hbk.symm
  have HBK : Hid (k = 2 → bk = true) := Lib.hid (fun h => by rw [hbk, h]; rfl)
  go_upto_if 29 with fail
  rw [← hbk]
  clear hbk t1
  go_cut [] from 30 to 33 (fun wx => ∃ eb : Nat, Hid (wx.heap[y]? = some (.cells (rnZ vo z k m u g data (evV ⟨k, m, u, g, data, 0⟩ eb)) 55 (0, 0))) ∧ Hid (wx.heap[t]? = some (.cells (flZ mn z ch vs) 52 (0, 0))) ∧ Hid (MapAt wx mn (iL L)) ∧ Hid (k = 2 → w.heap.size ≤ eb ∧ MapAt wx eb [] ∧ eb ≠ mn) ∧ Hid (Fx (fun b => b = t ∨ b = mn) w wx))
  case first =>
    cases bk with
    | false =>
      have HE : Hid (evV ⟨k, m, u, g, data, 0⟩ 0 = .map none) := Lib.hid (by unfold evV; rw [HBD.out]; rfl)
      have HF : Hid (k = 2 → False) := Lib.hid (fun h => by have := HBK.out h; cases this)
      go_wp2_with fail
      go_meet
      exact ⟨0, by rw [HE.out]; exact HX2, HT2, HM2, Lib.hid (fun h => absurd h HF.out), HF2⟩
    | true =>
      have HE : Hid (∀ eb, evV ⟨k, m, u, g, data, 0⟩ eb = .map (some eb)) := Lib.hid (fun eb => by unfold evV; rw [HBD.out]; rfl)
      obtain ⟨r0, hr0⟩ : ∃ r, r = w2.heap.size := ⟨_, rfl⟩
      obtain ⟨w4, hw4⟩ : ∃ z', z' = w2.alloc (.map #[] 0) := ⟨_, rfl⟩
      have hb4 : Below w2.heap.size w2 w4 := by rw [hw4]; exact (Below.refl _ w2).alloc (Nat.le_refl _) _
      have hx4 : w4.heap[y]? = some (.cells (rnZ vo z k m u g data (.map none)) 55 (0, 0)) := (hb4.block y (Array.getElem?_eq_some_iff.1 HX2.out).1).trans HX2.out
      have ht4 := (hb4.block t (Array.getElem?_eq_some_iff.1 HT2.out).1).trans HT2.out
      have hm4 := HM2.out.keep hb4
      have hr4 : MapAt w4 r0 [] := by rw [hw4, hr0]; exact MapAt.new w2
      have hF4 : Fx (fun b => b = t ∨ b = mn) w w4 := HF2.out.trans (Fx.of_below hb4)
      have x11 : w4.cell? ⟨y, 7, none⟩ = some (.map none) := by simp [World.cell?, hx4]
      have x11f : w4.frozen? ⟨y, 7, none⟩ = false := by simp [World.frozen?, hx4]
      have hxr : r0 ≠ y := map_ne hr4 ⟨_, _, hx4⟩ |>.symm
      have hrm : r0 ≠ mn := fun e => by have := HM2.out.lt; omega
      have hrw : w.heap.size ≤ r0 := by rw [hr0]; exact HSZ.out.1
      obtain ⟨w5, hw5⟩ : ∃ z', z' = w4.setCell ⟨y, 7, none⟩ (.map (some r0)) := ⟨_, rfl⟩
      have HX5 : Hid (w5.heap[y]? = some (.cells (rnZ vo z k m u g data (evV ⟨k, m, u, g, data, 0⟩ r0)) 55 (0, 0))) := Lib.hid (by rw [HE.out, hw5]; exact heap_setCell_same w4 y 7 _ _ _ hx4)
      have hty : t ≠ y := by have := HSZ.out.2.2; omega
      have hmy : mn ≠ y := by have := HSZ.out.2.1; omega
      have HT5 : Hid (w5.heap[t]? = some (.cells (flZ mn z ch vs) 52 (0, 0))) := Lib.hid (by rw [hw5]; exact (heap_setCell_other w4 ⟨y, 7, none⟩ t _ hty).trans ht4)
      have HM5 : Hid (MapAt w5 mn (iL L)) := Lib.hid (by rw [hw5]; exact (heap_setCell_other w4 ⟨y, 7, none⟩ mn _ hmy).trans hm4)
      have HR5 : Hid (k = 2 → w.heap.size ≤ r0 ∧ MapAt w5 r0 [] ∧ r0 ≠ mn) := Lib.hid (fun _ => ⟨hrw, by rw [hw5]; exact (heap_setCell_other w4 ⟨y, 7, none⟩ r0 _ hxr).trans hr4, hrm⟩)
      have HF5 : Hid (Fx (fun b => b = t ∨ b = mn) w w5) := Lib.hid (by
        rw [hw5]
        exact hF4.newer (Fx.setCell w4 (.inl (by have := HY.out; omega)) 7 _))
      have HE4 : Hid (w2.alloc (.map #[] 0) = w4) := Lib.hid hw4.symm
      have HE5 : Hid (w4.setCell ⟨y, 7, none⟩ (.map (some r0)) = w5) := Lib.hid hw5.symm
      have HR0 : Hid (w2.heap.size = r0) := Lib.hid hr0.symm
      clear hx4 ht4 hm4 hr4 hF4 hxr hrm hrw hw5 hr0 hb4 hty hmy
      rw [hw4] at x11 x11f
      clear hw4
      have hmm := @run_makeMap Tryz.prog
      go_wp2_with fail
      go_meet
      rw [HR0.out, HE4.out, HE5.out]
      exact ⟨r0, HX5, HT5, HM5, HR5, HF5⟩
  case rest =>
    obtain ⟨eb, H1, H2, H3, H4, H5⟩ := hcut
    have a0 : wc.cell? ⟨t, 0, none⟩ = some (.map (some mn)) := by have := H2.out; simp [World.cell?, this]
    have a1 : wc.cell? ⟨t, 1, none⟩ = some (.int .i64 z) := by have := H2.out; simp [World.cell?, this]
    have hNE : y ≠ mn ∧ y ≠ t := by have := HSZ.out; omega
    have h3d : MapAt wc.drew mn (iL L) := H3.out
    obtain ⟨w6, hmu, hw6⟩ := put_i (P := Tryz.prog) rmapN undI h3d z (ptr y) hL
    have ht6 : w6.heap[t]? = some (.cells (flZ mn z ch vs) 52 (0, 0)) := by rw [hw6]; exact (hset_other (fun e => HMT.out e.symm)).trans H2.out
    have hm6 : MapAt w6 mn (iL (L ++ [(z, ptr y)])) := by rw [hw6]; exact h3d.put
    have hx6 : w6.heap[y]? = some (.cells (rnZ vo z k m u g data (evV ⟨k, m, u, g, data, 0⟩ eb)) 55 (0, 0)) := by rw [hw6]; exact (hset_other hNE.1).trans H1.out
    have he6 : k = 2 → w.heap.size ≤ eb ∧ MapAt w6 eb [] := fun hd => ⟨(H4.out hd).1, by rw [hw6]; exact (hset_other (H4.out hd).2.2).trans (H4.out hd).2.1⟩
    have hF6 : Fx (fun b => b = t ∨ b = mn) w w6 := by rw [hw6]; exact (H5.out.trans (Fx.drew _ _)).trans (Fx.hset _ (.inr rfl) _)
    have b1 : w6.cell? ⟨t, 1, none⟩ = some (.int .i64 z) := by simp [World.cell?, ht6]
    have b1f : w6.frozen? ⟨t, 1, none⟩ = false := by simp [World.frozen?, ht6]
    obtain ⟨w7, hw7⟩ : ∃ w7, w7 = w6.setCell ⟨t, 1, none⟩ (.int .i64 z2) := ⟨_, rfl⟩
    have HW7 : Hid (w6.setCell ⟨t, 1, none⟩ (.int .i64 z2) = w7) := Lib.hid hw7.symm
    have HG : Hid (w7.heap[t]? = some (.cells (flZ mn z2 ch vs) 52 (0, 0)) ∧ MapAt w7 mn (iL (L ++ [(z, ptr y)])) ∧ w7.heap[y]? = some (.cells (rnZ vo z k m u g data (evV ⟨k, m, u, g, data, 0⟩ eb)) 55 (0, 0)) ∧ (k = 2 → w.heap.size ≤ eb ∧ MapAt w7 eb []) ∧ Fx (fun b => b = t ∨ b = mn) w w7) := Lib.hid (by
      rw [hw7]
      refine ⟨heap_setCell_same w6 t 1 _ _ _ ht6, (heap_setCell_other w6 ⟨t, 1, none⟩ mn _ HMT.out).trans hm6, (heap_setCell_other w6 ⟨t, 1, none⟩ y _ hNE.2).trans hx6, fun hd => ⟨(he6 hd).1, ?_⟩, hF6.trans (Fx.setCell w6 (.inl rfl) 1 _)⟩
      refine (heap_setCell_other w6 ⟨t, 1, none⟩ eb _ (fun e => ?_)).trans (he6 hd).2
      exact map_ne (he6 hd).2 ⟨_, _, ht6⟩ e.symm)
    clear hw6 hw7 ht6 hm6 hx6 he6 hF6 H1 H2 H3 H4 H5 h3d hNE hL HBK HBD
    go_upto_region 4 with fail
    go_still_tail 9, (by kernel_rfl)
    change wpList _ _ _ _ _ wc.drew
    generalize wc.drew = wd at *
    clear a0 a1
    go_upto_region 5 with fail
    clear hmu
    go_wp2_with fail
    rw [HW7.out]
    go_ret
    obtain ⟨g1, g2, g3, g4, g5⟩ := HG.out
    have e1 := HZ.out
    have e2 := HZ2.out
    subst e1 e2
    exact ⟨eb, y, rfl, g1, g2, g3, g4, Nat.le_of_eq HY.out, g5⟩
end Go.Proofs.YtclhdppepopgeaaGreatDoor
