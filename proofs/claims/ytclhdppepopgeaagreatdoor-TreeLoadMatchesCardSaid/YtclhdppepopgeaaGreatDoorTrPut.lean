/- The tree's lists: put of a place. -/
import Derived.Test.YtclhdppepopgeaaGreatDoorTrAdd
namespace Go.Proofs.YtclhdppepopgeaaGreatDoor
open Go.RowKit

theorem nodeOk : NAok NodeAt := ⟨fun h e => by obtain ⟨a, b, h⟩ := h; exact ⟨a, b, e.trans h⟩, fun h => h.cellar⟩
/-- a node's count of names -/
theorem NodeAt.names {w : World} {b i : Nat} {d : ND} {ev : Value} (h : NodeAt w b i d ev) : ∃ n : Int, w.cell? ⟨b, 7, none⟩ = some (.int .i64 n) ∧ w.frozen? ⟨b, 7, none⟩ = false ∧ ∀ z : Int, NodeAt (w.setCell ⟨b, 7, none⟩ (.int .i64 z)) b i d ev := by
  obtain ⟨n, p, h⟩ := h
  exact ⟨n, by simp [World.cell?, h, ndCells], by simp [World.frozen?, h], fun z => ⟨z, p, heap_setCell_same w b 7 _ _ _ h⟩⟩
theorem NodeAt.par {w : World} {b i : Nat} {d : ND} {ev : Value} (h : NodeAt w b i d ev) : ∃ n : Int, w.cell? ⟨b, 9, none⟩ = some (.int .i64 n) ∧ w.frozen? ⟨b, 9, none⟩ = false ∧ ∀ z : Int, NodeAt (w.setCell ⟨b, 9, none⟩ (.int .i64 z)) b i d ev := by
  obtain ⟨n, p, h⟩ := h
  exact ⟨p, by simp [World.cell?, h, ndCells], by simp [World.frozen?, h], fun z => ⟨n, z, heap_setCell_same w b 9 _ _ _ h⟩⟩

set_option maxRecDepth 100000 in
set_option maxHeartbeats 6400000 in
theorem pput_any (w : World) (B : Nat) (s : TS) (mn kn : Nat) (nb eb : Nat → Nat) (h : TC NodeAt w B s mn kn nb eb) (hlen : s.ents.length = s.nds.length) (d : Nat) (hd : d < s.nds.length) (hdd : dirK (s.nd d) = true) (name : ByteArray) (j : Nat) (hj : j < s.nds.length) (hg : getA (s.en d) name = none) :
    Calls Tryz.prog 42 #[.agg #[ptr (nb d), .string name], ptr (nb j)] w fun e w' => e = .returned (.tuple #[]) ∧ TC NodeAt w' B ⟨s.nds, s.ents.set d (s.en d ++ [(name, j)]), s.known⟩ mn kn nb eb ∧ Fx (fun b => b = eb d ∨ b = nb j) w w' := by
  obtain ⟨x, hx⟩ : ∃ x, x = w.heap.size := ⟨_, rfl⟩
  obtain ⟨w1, hw1⟩ : ∃ z, z = w.alloc (.cells #[ptr (nb d), .string name] 103) := ⟨_, rfl⟩
  have hb1 : Below w.heap.size w w1 := by rw [hw1]; exact (Below.refl _ w).alloc (Nat.le_refl _) _
  have h1 := h.keep nodeOk hb1
  have hx1 : w1.heap[x]? = some (.cells #[ptr (nb d), .string name] 103 (0, 0)) := by rw [hw1, hx]; exact heap_alloc_new w _
  have hF1 : Fx (fun b => b = eb d ∨ b = nb j) w w1 := Fx.of_below hb1
  -- the entry
  have hgs : getS (entL nb (s.en d)) name = none := by rw [getS_ent, hg]; rfl
  obtain ⟨w2, hmu, hw2⟩ := put_s (P := Tryz.prog) mapE undS (show MapAt w1.drew (eb d) (sL (entL nb (s.en d))) from h1.ents d hd hdd) name (ptr (nb j)) hgs
  have h1d : TC NodeAt w1.drew B s mn kn nb eb := h1.keep nodeOk (Below.refl _ _).drew
  have h2 : TC NodeAt w2 B ⟨s.nds, s.ents.set d (s.en d ++ [(name, j)]), s.known⟩ mn kn nb eb := by rw [hw2]; exact h1d.entry nodeOk hlen d hd hdd name j rfl
  have hF2 : Fx (fun b => b = eb d ∨ b = nb j) w w2 := by rw [hw2]; exact (hF1.trans (Fx.drew _ _)).trans (Fx.hset _ (.inl rfl) _)
  have hxe : x ≠ eb d := by have := h.ents d hd hdd; have := this.lt; omega
  have hx2 : w2.heap[x]? = some (.cells #[ptr (nb d), .string name] 103 (0, 0)) := by rw [hw2]; exact (hset_other hxe).trans hx1
  -- the count of names
  obtain ⟨n, n7, n7f, hset7⟩ := (h2.node j hj).names
  obtain ⟨z, hz⟩ : ∃ z, z = wrap64 (n + 1) := ⟨_, rfl⟩
  obtain ⟨w3, hw3⟩ : ∃ w3, w3 = w2.setCell ⟨nb j, 7, none⟩ (.int .i64 z) := ⟨_, rfl⟩
  have hF23 : Fx (fun b => b = nb j) w2 w3 := by rw [hw3]; exact Fx.setCell (S := fun b => b = nb j) w2 rfl 7 _
  have h3 : TC NodeAt w3 B ⟨s.nds, s.ents.set d (s.en d ++ [(name, j)]), s.known⟩ mn kn nb eb := h2.one nodeOk j hj hF23 (by rw [hw3]; exact hset7 z)
  have hF3 : Fx (fun b => b = eb d ∨ b = nb j) w w3 := hF2.trans (hF23.mono fun b hb => .inr hb)
  have hxn : x ≠ nb j := by have := (nodeOk.cells (h.node j hj)).lt; omega
  have hx3 : w3.heap[x]? = some (.cells #[ptr (nb d), .string name] 103 (0, 0)) := (hF23.block x (Array.getElem?_eq_some_iff.1 hx2).1 hxn).trans hx2
  have k2 := (h3.node j hj).cells.2.2.1
  -- the parent
  obtain ⟨p, n9, n9f, hset9⟩ := (h3.node j hj).par
  have c0 := (h3.node d hd).cells.1
  generalize ((d + 1 : Nat) : Int) = dn at c0
  obtain ⟨w4, hw4⟩ : ∃ w4, w4 = w3.setCell ⟨nb j, 9, none⟩ (.int .i64 dn) := ⟨_, rfl⟩
  have hF34 : Fx (fun b => b = nb j) w3 w4 := by rw [hw4]; exact Fx.setCell (S := fun b => b = nb j) w3 rfl 9 _
  have h4 : TC NodeAt w4 B ⟨s.nds, s.ents.set d (s.en d ++ [(name, j)]), s.known⟩ mn kn nb eb := h3.one nodeOk j hj hF34 (by rw [hw4]; exact hset9 _)
  have hF4 : Fx (fun b => b = eb d ∨ b = nb j) w w4 := hF3.trans (hF34.mono fun b hb => .inr hb)
  have x30 : w3.cell? ⟨x, 0, none⟩ = some (ptr (nb d)) := by simp [World.cell?, hx3]
  have HD := Lib.hid (isDir_any (nb j) _ w3 k2)
  have x0 : w1.cell? ⟨x, 0, none⟩ = some (ptr (nb d)) := by simp [World.cell?, hx1]
  have x1 : w1.cell? ⟨x, 1, none⟩ = some (.string name) := by simp [World.cell?, hx1]
  have c11 : w1.cell? ⟨nb d, 11, none⟩ = some (.map (some (eb d))) := by
    have := (h1.node d hd).cells.2.2.2.2.2.2.2.2
    unfold evV at this
    rw [hdd] at this
    exact this
  have HX : Hid (w.heap.size = x) := Lib.hid hx.symm
  have HW1 : Hid (w.alloc (.cells #[ptr (nb d), .string name] 103) = w1) := Lib.hid hw1.symm
  have HZ : Hid (wrap64 (n + 1) = z) := Lib.hid hz.symm
  have HW3 : Hid (w2.setCell ⟨nb j, 7, none⟩ (.int .i64 z) = w3) := Lib.hid hw3.symm
  have HW4 : Hid (w3.setCell ⟨nb j, 9, none⟩ (.int .i64 dn) = w4) := Lib.hid hw4.symm
  have HE3 : Hid (TC NodeAt w3 B ⟨s.nds, s.ents.set d (s.en d ++ [(name, j)]), s.known⟩ mn kn nb eb ∧ Fx (fun b => b = eb d ∨ b = nb j) w w3) := Lib.hid ⟨h3, hF3⟩
  have HE4 : Hid (TC NodeAt w4 B ⟨s.nds, s.ents.set d (s.en d ++ [(name, j)]), s.known⟩ mn kn nb eb ∧ Fx (fun b => b = eb d ∨ b = nb j) w w4) := Lib.hid ⟨h4, hF4⟩
  have hmu2 := hmu
  obtain ⟨kj, hkj⟩ : ∃ kj, kj = (TS.nd ⟨s.nds, s.ents.set d (s.en d ++ [(name, j)]), s.known⟩ j).kind := ⟨_, rfl⟩
  rw [← hkj] at HD
  clear hkj h h1 h2 h3 h4 h1d hF1 hF2 hF3 hF4 hF23 hF34 hx1 hx2 hx3 hxe hxn hset7 hset9 hw1 hw2 hw3 hw4 hz hx hb1 hgs k2 hmu hlen hd hdd hj hg
  obtain ⟨Q, hQ⟩ : ∃ Q : World → Prop, Q = fun w' => TC NodeAt w' B ⟨s.nds, s.ents.set d (s.en d ++ [(name, j)]), s.known⟩ mn kn nb eb ∧ Fx (fun b => b = eb d ∨ b = nb j) w w' := ⟨_, rfl⟩
  have HQ3 : Hid (Q w3) := Lib.hid (by rw [hQ]; exact HE3.out)
  have HQ4 : Hid (Q w4) := Lib.hid (by rw [hQ]; exact HE4.out)
  have HQ : Hid (∀ w', Q w' → TC NodeAt w' B ⟨s.nds, s.ents.set d (s.en d ++ [(name, j)]), s.known⟩ mn kn nb eb ∧ Fx (fun b => b = eb d ∨ b = nb j) w w') := Lib.hid (fun w' h => by rw [hQ] at h; exact h)
  suffices hS : Calls Tryz.prog 42 #[.agg #[ptr (nb d), .string name], ptr (nb j)] w fun e w' => e = .returned (.tuple #[]) ∧ Q w' from hS.mono fun e w' h => ⟨h.1, HQ.out w' h.2⟩
  clear hQ HE3 HE4 HQ
  generalize nb d = nd at *
  generalize nb j = nj at *
  generalize eb d = ed at *
  go_enter Tryz.func42, Tryz.ntmps42
  go_upto_region 1 with fail
  rw [HX.out, HW1.out]
  go_still_tail 8, (by kernel_rfl)
  change wpList _ _ _ _ _ w1.drew
  generalize w1.drew = wd at *
  clear x0 x1 c11
  go_upto_region 2 with fail
  go_wp2_with fail
  rw [HZ.out, HW3.out]
  clear n7 n7f
  refine HD.out.mono ?_
  rintro e w5 ⟨rfl, rfl⟩
  cases (kj == 2) with
  | false =>
    go_wp2_with fail
    go_end0
    exact ⟨rfl, HQ3.out⟩
  | true =>
    go_wp2_with fail
    rw [HW4.out]
    go_end0
    exact ⟨rfl, HQ4.out⟩
end Go.Proofs.YtclhdppepopgeaaGreatDoor
