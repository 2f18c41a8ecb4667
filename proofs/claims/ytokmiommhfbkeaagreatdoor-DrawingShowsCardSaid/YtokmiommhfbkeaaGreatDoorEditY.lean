/- The program's editor, in its box: two bytes exchanged. -/
import Derived.Test.YtokmiommhfbkeaaGreatDoorEditX
import Derived.Laws.IdiomStrings
import Derived.BigRegion
import Derived.Lib.Strings
namespace Go.Proofs.YtokmiommhfbkeaaGreatDoor
open Go.RowKit

/-- a block's first cells are the bytes l, none frozen -/
def BR (w : World) (g : Nat) (l : List UInt8) : Prop := ∀ j (h : j < l.length), w.cell? ⟨g, j, none⟩ = some (.int .u8 l[j].toNat) ∧ w.frozen? ⟨g, j, none⟩ = false
theorem BR.new (w : World) (s : ByteArray) (cap : Nat) (t : TypeId) : BR (w.alloc (.cells (bytesRow s cap) t ((bytesRow s cap).size, (bytesRow s cap).size + 1))).drew w.heap.size s.data.toList := fun j h => by
  have hj : j < s.data.size := by simpa using h
  have hz : s.data.size ≤ (bytesRow s cap).size := by simp [bytesRow]
  refine ⟨?_, ?_⟩
  · show World.cell? (w.alloc _) _ = _
    rw [World.cell?_alloc_mark, bytesRow_at s cap j hj, Array.getElem_toList]
  · show World.frozen? (w.alloc _) _ = _
    rw [World.frozen?_alloc_mark]
    simp; omega
theorem cell?_set_same {w : World} {g i : Nat} {v x : Value} (h : w.cell? ⟨g, i, none⟩ = some v) : (w.setCell ⟨g, i, none⟩ x).cell? ⟨g, i, none⟩ = some x := by
  exact World.cell?_setCell_same _ _ _ h
theorem BR.set {w : World} {g : Nat} {l : List UInt8} (h : BR w g l) (i : Nat) (c : UInt8) : BR (w.setCell ⟨g, i, none⟩ (.int .u8 c.toNat)) g (l.set i c) := fun j hj => by
  have hj' : j < l.length := by simpa using hj
  have hf : (w.setCell ⟨g, i, none⟩ (.int .u8 c.toNat)).frozen? ⟨g, j, none⟩ = w.frozen? ⟨g, j, none⟩ := by simp [World.frozen?_setCell]
  refine ⟨?_, hf.trans (h j hj').2⟩
  by_cases e : i = j
  · subst e
    rw [List.getElem_set_self]
    obtain ⟨v, hv⟩ : ∃ v, w.cell? ⟨g, i, none⟩ = some v := ⟨_, (h i hj').1⟩
    exact cell?_set_same hv
  · rw [List.getElem_set_ne e, World.cell?_setCell_other _ _ _ _ (by simp)]
    exact (h j hj').1
theorem BR.drew {w : World} {g : Nat} {l : List UInt8} (h : BR w g l) (n : Nat) : BR (w.drewN n) g l := h
theorem BR.back {w : World} {g : Nat} {l : List UInt8} (h : BR w g l) (n cap : Nat) (hn : n = l.length) :
    (convert 50 9 (.slice (some ⟨g, 0, none⟩) n cap)).run Tryz.prog w = .ok (.string ⟨l.toArray⟩) w := by
  subst hn
  exact run_convert_bytes_back w 50 9 5 ⟨g, 0, none⟩ cap l Tryz.underlying50 Tryz.underlying5 Tryz.underlying9 (fun j hj => by
    rw [WideShapes.add_plain, Nat.zero_add]; exact (h j hj).1)

theorem split_two {l : List UInt8} {k : Nat} {x y : UInt8} (hx : l[k]? = some x) (hy : l[k + 1]? = some y) : l = l.take k ++ x :: y :: l.drop (k + 2) := by
  obtain ⟨h1, e1⟩ := List.getElem?_eq_some_iff.1 hx
  obtain ⟨h2, e2⟩ := List.getElem?_eq_some_iff.1 hy
  rw [← e1, ← e2, ← List.drop_eq_getElem_cons h2, ← List.drop_eq_getElem_cons h1, List.take_append_drop]
theorem swap_set (t : ByteArray) (k : Nat) (x y : UInt8) (hx : t.data.toList[k]? = some x) (hy : t.data.toList[k + 1]? = some y) :
    swapT t k = ⟨((t.data.toList.set k y).set (k + 1) x).toArray⟩ := by
  have h2 := (List.getElem?_eq_some_iff.1 hy).1
  have hs := split_two hx hy
  have hz : t.size = t.data.toList.length := (size_toList t).symm
  apply ByteArray.ext
  apply Array.ext'
  unfold swapT
  simp only [ByteArray.data_append, Array.toList_append, Lib.extract_data, hz]
  generalize t.data.toList = l at *
  have hk : (l.take k).length = k := by rw [List.length_take]; omega
  generalize l.take k = p at *
  generalize l.drop (k + 2) = q at *
  subst hs
  simp [List.drop_append, List.take_append, hk]
  rw [List.drop_eq_nil_of_le (by omega)]
  simp
  exact List.take_of_length_le (by omega)
theorem Turned.other {w w1 : World} {b : Nat} {cs : Array Value} (h : Turned w b cs w1) {p : Addr} (hp : w.heap.size ≤ p.block) (hb : b < w.heap.size) (v : Value) : Turned w b cs (w1.setCell p v) :=
  ⟨only_setCell h.1 (.inr hp) v, (Below.heap_setCell w1 p v b (by omega)).trans h.2⟩
theorem bytes_box {w : World} {b : Nat} {cs : Array Value} (h : Box w b cs) (o : Obj) : Turned w b cs (w.alloc o).drew := ((Turned.refl h).alloc o).drew

set_option maxRecDepth 100000 in
set_option maxHeartbeats 3200000 in
theorem swap_at (text : ByteArray) (a m : Nat) (killed : ByteArray) (killing : Bool) (bv hv : Value) (place : Int) (begun : ByteArray) (b : Nat) (w : World) (h : Box w b (edC ⟨text, a, killed, killing⟩ bv place begun hv))
    (h1 : 1 ≤ m) (h2 : m < text.size) (ht : text.size ≤ 1000) (hk : a = m ∨ a = m + 1 ∧ m + 1 = text.size) :
    Calls Tryz.prog 82 #[.pointer (some ⟨b, 0, none⟩)] w fun e w' => e = .returned (.tuple #[]) ∧ Turned w b (edC ⟨swapT text (m - 1), m + 1, killed, killing⟩ bv place begun hv) w' := by
  obtain ⟨cc, zz⟩ := h.cell
  have HB := Lib.hid h
  clear h
  have kb := fun W => run_bytes_of_string (P := Tryz.prog) W 9 50 5 text Tryz.underlying9 Tryz.underlying50 Tryz.underlying5
  have e3 : decide ((text.size : Int) < 2) = false := by rw [decide_eq_false_iff_not]; omega
  have hk2 : m ≤ 1000 := by omega
  have hk3 : (0 : Int) ≤ (m : Int) - 1 := by omega
  have hk4 : ((m : Int) - 1).toNat = m - 1 := by omega
  have hk5 : m - 1 < text.size := by omega
  have hx : ∃ x : UInt8, text.data.toList[m - 1]? = some x := ⟨text[m - 1], by rw [List.getElem?_eq_getElem (by rw [size_toList]; omega)]; rfl⟩
  have hy : ∃ y : UInt8, text.data.toList[m]? = some y := ⟨text[m], by rw [List.getElem?_eq_getElem (by rw [size_toList]; omega)]; rfl⟩
  obtain ⟨x, hx⟩ := hx
  obtain ⟨y, hy⟩ := hy
  have HX := Lib.hid hx
  have HY := Lib.hid hy
  clear hx hy
  have hor : (((a : Int) == 0) = false ∧ ((a : Int) == (text.size : Int)) = false ∧ m = a) ∨ (((m : Int) + 1 == 0) = false ∧ ((m : Int) + 1 == (text.size : Int)) = true ∧ m + 1 = a) := by
    rcases hk with rfl | ⟨rfl, he⟩
    · exact .inl ⟨by rw [beq_eq_false_iff_ne]; omega, by rw [beq_eq_false_iff_ne]; omega, rfl⟩
    · exact .inr ⟨by rw [beq_eq_false_iff_ne]; omega, by rw [← he]; simp, rfl⟩
  clear hk
  rcases hor with ⟨e1, e2, rfl⟩ | ⟨e1, e2, rfl⟩
  all_goals
    go_enter Tryz.func82, Tryz.ntmps82
    go_wp2_with fail
    have hT := bytes_box HB.out (.cells (bytesRow text (grownCap w text.size 0 5)) 5 ((bytesRow text (grownCap w text.size 0 5)).size, (bytesRow text (grownCap w text.size 0 5)).size + 1))
    have hR := BR.new w text (grownCap w text.size 0 5) 5
    generalize grownCap w text.size 0 5 = cp at *
    generalize (w.alloc (.cells (bytesRow text cp) 5 ((bytesRow text cp).size, (bytesRow text cp).size + 1))).drew = w2 at *
    clear kb cc zz
    have HG := Lib.hid (show b < w.heap.size from HB.out.lt)
    have HTT := Lib.hid hT
    have HRR := Lib.hid hR
    have cx : w2.cell? ⟨w.heap.size, m - 1, none⟩ = some (.int .u8 x.toNat) := by
      rw [(hR (m - 1) (by rw [size_toList]; omega)).1, ← Option.some.inj ((List.getElem?_eq_getElem _).symm.trans HX.out)]
    have cy : w2.cell? ⟨w.heap.size, m, none⟩ = some (.int .u8 y.toNat) := by
      rw [(hR m (by rw [size_toList]; omega)).1, ← Option.some.inj ((List.getElem?_eq_getElem _).symm.trans HY.out)]
    have zx := (hR (m - 1) (by rw [size_toList]; omega)).2
    have zy := (hR m (by rw [size_toList]; omega)).2
    clear hR hT
    go_region
    have hT3 := (((HTT.out.other (p := ⟨w.heap.size, m - 1, none⟩) (Nat.le_refl _) HG.out (.int .u8 y.toNat)).other (p := ⟨w.heap.size, m, none⟩) (Nat.le_refl _) HG.out (.int .u8 x.toNat))).drew
    have hR3 : BR ((w2.setCell ⟨w.heap.size, m - 1, none⟩ (.int .u8 y.toNat)).setCell ⟨w.heap.size, m, none⟩ (.int .u8 x.toNat)).drew w.heap.size ((text.data.toList.set (m - 1) y).set m x) := (HRR.out.set (m - 1) y).set m x
    generalize ((w2.setCell ⟨w.heap.size, m - 1, none⟩ (.int .u8 y.toNat)).setCell ⟨w.heap.size, m, none⟩ (.int .u8 x.toNat)).drew = w3 at *
    have kc := hR3.back text.size cp (by simp)
    obtain ⟨c3, z3⟩ := hT3.2.cell
    have H3 := Lib.hid hT3
    have hfin := Lib.hid (show (⟨((text.data.toList.set (m - 1) y).set m x).toArray⟩ : ByteArray) = swapT text (m - 1) by rw [swap_set text (m - 1) x y HX.out (by rw [show m - 1 + 1 = m by omega]; exact HY.out), show m - 1 + 1 = m by omega])
    clear hT3 hR3 cx cy zx zy
    go_wp2
    go_end0
    rw [hfin.out]
    exact ⟨rfl, (H3.out.set 0 _).set 1 _⟩

set_option maxRecDepth 100000 in
set_option maxHeartbeats 1600000 in
theorem swap_not (text : ByteArray) (a : Nat) (killed : ByteArray) (killing : Bool) (bv hv : Value) (place : Int) (begun : ByteArray) (b : Nat) (w : World) (h : Box w b (edC ⟨text, a, killed, killing⟩ bv place begun hv))
    (h1 : text.size < 2 ∨ a = 0) (ha : a ≤ text.size) (ht : text.size ≤ 1000) :
    Calls Tryz.prog 82 #[.pointer (some ⟨b, 0, none⟩)] w fun e w' => e = .returned (.tuple #[]) ∧ Turned w b (edC ⟨text, a, killed, killing⟩ bv place begun hv) w' := by
  obtain ⟨cc, zz⟩ := h.cell
  have HB := Lib.hid h
  clear h
  have hor : decide ((text.size : Int) < 2) = true ∨ (decide ((text.size : Int) < 2) = false ∧ ((a : Int) == 0) = true) := by
    by_cases hh : text.size < 2
    · exact .inl (by rw [decide_eq_true_iff]; omega)
    · exact .inr ⟨by rw [decide_eq_false_iff_not]; omega, by rw [beq_iff_eq]; omega⟩
  clear h1
  cases he : ((a : Int) == (text.size : Int)) <;> rcases hor with e1 | ⟨e1, e2⟩
  all_goals
    go_enter Tryz.func82, Tryz.ntmps82
    go_wp2
    refine bodyPost_ret (results_none rfl _ _ _) rfl ?_
    exact ⟨rfl, Turned.refl HB.out⟩

theorem swap_any (d : ED) (bv hv : Value) (place : Int) (begun : ByteArray) (b : Nat) (w : World) (h : Box w b (edC d bv place begun hv)) (ha : d.a ≤ d.text.size) (ht : d.text.size ≤ 1000) :
    Calls Tryz.prog 82 #[.pointer (some ⟨b, 0, none⟩)] w fun e w' => e = .returned (.tuple #[]) ∧ Turned w b (edC (swapD d) bv place begun hv) w' := by
  obtain ⟨text, a, killed, killing⟩ := d
  dsimp only at *
  by_cases h1 : text.size < 2 ∨ a = 0
  · rw [show swapD ⟨text, a, killed, killing⟩ = ⟨text, a, killed, killing⟩ by simp [swapD, h1]]
    exact swap_not text a killed killing bv hv place begun b w h h1 ha ht
  · by_cases h2 : a = text.size
    · have e : swapD ⟨text, a, killed, killing⟩ = ⟨swapT text (a - 1 - 1), a - 1 + 1, killed, killing⟩ := by
        simp only [swapD, if_neg h1, if_pos h2]; rw [show a - 1 - 1 = a - 2 by omega, show a - 1 + 1 = a by omega]
      rw [e]
      exact swap_at text a (a - 1) killed killing bv hv place begun b w h (by omega) (by omega) ht (.inr ⟨by omega, by omega⟩)
    · have e : swapD ⟨text, a, killed, killing⟩ = ⟨swapT text (a - 1), a + 1, killed, killing⟩ := by
        simp only [swapD, if_neg h1, if_neg h2]
      rw [e]
      exact swap_at text a a killed killing bv hv place begun b w h (by omega) (by omega) ht (.inl rfl)

end Go.Proofs.YtokmiommhfbkeaaGreatDoor
