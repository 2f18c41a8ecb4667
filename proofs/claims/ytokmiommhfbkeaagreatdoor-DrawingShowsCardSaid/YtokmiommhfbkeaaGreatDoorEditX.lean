/- The program's editor, in its box: inserting, erasing, killing. -/
import Derived.Test.YtokmiommhfbkeaaGreatDoorEditW
import Derived.IntWalk
namespace Go.Proofs.YtokmiommhfbkeaaGreatDoor
open Go.RowKit

theorem only_drewN {a w : World} {row : Option Nat} (h : a.grownBy w row) (n : Nat) : a.grownBy (w.drewN n) row := ⟨h.os, h.tape, h.output, h.size, h.block⟩
theorem only_drew {a w : World} {row : Option Nat} (h : a.grownBy w row) : a.grownBy w.drew row := ⟨h.os, h.tape, h.output, h.size, h.block⟩
theorem only_alloc {a w : World} {row : Option Nat} (h : a.grownBy w row) (o : Obj) : a.grownBy (w.alloc o) row :=
  ⟨h.os, h.tape, h.output, Nat.le_trans h.size (by simp), fun i hi hne => (Below.heap_alloc w o i (Nat.lt_of_lt_of_le hi h.size)).trans (h.block i hi hne)⟩
theorem only_setCell {a w : World} {g : Nat} (h : a.grownBy w (some g)) {p : Addr} (hp : p.block = g ∨ a.heap.size ≤ p.block) (u : Value) : a.grownBy (w.setCell p u) (some g) :=
  ⟨h.os, h.tape, h.output, by simpa [World.setCell] using h.size, fun i hi hne => (Below.heap_setCell w p u i (by
    rintro rfl
    rcases hp with hp | hp
    · exact hne (by rw [hp])
    · omega)).trans (h.block i hi hne)⟩
theorem only_of_below {a w : World} (h : Below a.heap.size a w) (row : Option Nat) : a.grownBy w row := ⟨h.os, h.tape, h.output, h.size, fun i hi _ => h.block i hi⟩

/-- the box has turned, and nothing else that was there -/
def Turned (w : World) (b : Nat) (cs : Array Value) (w' : World) : Prop := w.grownBy w' (some b) ∧ Box w' b cs
theorem Turned.refl {w : World} {b : Nat} {cs : Array Value} (h : Box w b cs) : Turned w b cs w := ⟨World.grownBy.refl w _, h⟩
theorem Turned.trans {w w1 w2 : World} {b : Nat} {cs cs' : Array Value} (h : Turned w b cs w1) (h' : Turned w1 b cs' w2) : Turned w b cs' w2 :=
  ⟨World.grownBy.trans h.1 h'.1, h'.2⟩
theorem Turned.drew {w w1 : World} {b : Nat} {cs : Array Value} (h : Turned w b cs w1) : Turned w b cs w1.drew := ⟨only_drew h.1, h.2⟩
theorem Turned.drewN {w w1 : World} {b : Nat} {cs : Array Value} (h : Turned w b cs w1) (n : Nat) : Turned w b cs (w1.drewN n) := ⟨only_drewN h.1 n, h.2⟩
theorem Turned.alloc {w w1 : World} {b : Nat} {cs : Array Value} (h : Turned w b cs w1) (o : Obj) : Turned w b cs (w1.alloc o) :=
  ⟨only_alloc h.1 o, (Below.heap_alloc w1 o b (lt_of_block h.2)).trans h.2⟩
theorem Turned.set {w w1 : World} {b : Nat} {cs : Array Value} (h : Turned w b cs w1) (j : Nat) (v : Value) : Turned w b (cs.setIfInBounds j v) (w1.setCell ⟨b, j, none⟩ v) :=
  ⟨only_setCell h.1 (.inl rfl) v, heap_setCell_same _ _ _ _ _ _ h.2⟩

set_option maxRecDepth 100000 in
set_option maxHeartbeats 1600000 in
theorem erase_any (d : ED) (bv hv : Value) (place : Int) (begun : ByteArray) (b i j : Nat) (w : World) (h : Box w b (edC d bv place begun hv)) (hi : i ≤ d.text.size) (hj : j ≤ d.text.size) (ht : d.text.size ≤ 1000) :
    Calls Tryz.prog 80 #[.pointer (some ⟨b, 0, none⟩), .int .i64 i, .int .i64 j] w fun e w' => e = .returned (.tuple #[]) ∧ Turned w b (edC (eraD i j d) bv place begun hv) w' := by
  obtain ⟨text, a, killed, killing⟩ := d
  dsimp only at *
  obtain ⟨cc, zz⟩ := h.cell
  have HB := Lib.hid h
  have g : ¬ 9223372036854775807 < i + (text.size - j) := by omega
  clear h
  go_enter Tryz.func80, Tryz.ntmps80
  go_wp2_with fail
  go_still_tail 19, (by kernel_rfl)
  go_wp2
  go_end0
  exact ⟨rfl, ((Turned.refl HB.out).drew.set 0 _).set 1 _⟩

set_option maxRecDepth 100000 in
set_option maxHeartbeats 1600000 in
theorem insert_any (d : ED) (bv hv : Value) (place : Int) (begun s : ByteArray) (b : Nat) (w : World) (h : Box w b (edC d bv place begun hv)) (ha : d.a ≤ d.text.size) (ht : d.text.size ≤ 1000) (hs : s.size ≤ 1000) :
    Calls Tryz.prog 79 #[.pointer (some ⟨b, 0, none⟩), .string s] w fun e w' => e = .returned (.tuple #[]) ∧ Turned w b (edC (insD s d) bv place begun hv) w' := by
  obtain ⟨text, a, killed, killing⟩ := d
  dsimp only at *
  obtain ⟨cc, zz⟩ := h.cell
  have HB := Lib.hid h
  clear h
  by_cases hle : text.size + s.size ≤ 1000
  · have hfin : insD s ⟨text, a, killed, killing⟩ = ⟨text.extract 0 a ++ s ++ text.extract a text.size, a + s.size, killed, killing⟩ := by simp [insD, hle]
    rw [hfin]
    clear hfin
    have g1 : ¬ 9223372036854775807 < a + s.size := by omega
    have g2 : ¬ 9223372036854775807 < a + s.size + (text.size - a) := by omega
    go_enter Tryz.func79, Tryz.ntmps79
    go_wp2_with fail
    go_still_tail 29, (by kernel_rfl)
    go_wp2
    go_end0
    exact ⟨rfl, ((Turned.refl HB.out).drew.set 0 _).set 1 _⟩
  · have hfin : insD s ⟨text, a, killed, killing⟩ = ⟨text, a, killed, killing⟩ := by simp [insD, hle]
    rw [hfin]
    clear hfin
    go_enter Tryz.func79, Tryz.ntmps79
    go_wp2
    go_end0
    exact ⟨rfl, Turned.refl HB.out⟩

theorem size_cut (t : ByteArray) (i j : Nat) (h : j ≤ t.size) : (t.extract i j).size = j - i := by rw [ByteArray.size_extract]; omega

set_option maxRecDepth 100000 in
set_option maxHeartbeats 3200000 in
theorem kill_any (d : ED) (bv hv : Value) (place : Int) (begun : ByteArray) (was : Bool) (b i j : Nat) (w : World) (h : Box w b (edC d bv place begun hv)) (hij : i ≤ j) (hj : j ≤ d.text.size) (ht : d.text.size ≤ 1000) (hk : d.killed.size ≤ 1000) :
    Calls Tryz.prog 81 #[.pointer (some ⟨b, 0, none⟩), .int .i64 i, .int .i64 j, .bool was] w fun e w' => e = .returned (.tuple #[]) ∧ Turned w b (edC (killD i j was d) bv place begun hv) w' := by
  obtain ⟨text, a, killed, killing⟩ := d
  dsimp only at *
  obtain ⟨cc, zz⟩ := h.cell
  have HB := Lib.hid h
  clear h
  by_cases he : i = j
  · have hfin : killD i j was ⟨text, a, killed, killing⟩ = ⟨text, a, killed, killing⟩ := by simp [killD, he]
    rw [hfin]
    clear hfin
    have he2 : ((i : Int) == (j : Int)) = true := by rw [he]; simp
    clear he
    go_enter Tryz.func81, Tryz.ntmps81
    go_wp2
    refine bodyPost_ret (results_none rfl _ _ _) rfl ?_
    exact ⟨rfl, Turned.refl HB.out⟩
  · have he2 : ((i : Int) == (j : Int)) = false := by rw [beq_eq_false_iff_ne]; omega
    cases was
    · have hfin : killD i j false ⟨text, a, killed, killing⟩ = eraD i j ⟨text, a, text.extract i j, true⟩ := by simp [killD, eraD, he]
      rw [hfin]
      clear hfin he
      go_enter Tryz.func81, Tryz.ntmps81
      go_wp2_with fail
      refine (erase_any ⟨text, a, text.extract i j, true⟩ bv hv place begun b i j _ (((Turned.refl HB.out).set 2 _).set 3 _).2 (by simp; omega) (by simpa using hj) (by simpa using ht)).mono ?_
      rintro e w' ⟨rfl, hT⟩
      go_wp2
      go_end0
      exact ⟨rfl, (((Turned.refl HB.out).set 2 _).set 3 _).trans hT⟩
    · by_cases hgt : a < j
      · have hfin : killD i j true ⟨text, a, killed, killing⟩ = eraD i j ⟨text, a, keptT killed (text.extract i j) true, true⟩ := by simp [killD, eraD, he, hgt]
        rw [hfin]
        clear hfin he
        have g1 : ¬ 9223372036854775807 < killed.size + (j - i) := by omega
        go_enter Tryz.func81, Tryz.ntmps81
        go_wp2_with fail
        have hT : Turned w b (edC ⟨text, a, killed ++ text.extract i j, killing⟩ bv place begun hv) (w.setCell ⟨b, 2, none⟩ (.string (killed ++ text.extract i j))) := (Turned.refl HB.out).set 2 _
        generalize w.setCell ⟨b, 2, none⟩ (.string (killed ++ text.extract i j)) = w2 at *
        obtain ⟨cc2, zz2⟩ := hT.2.cell
        have HT := Lib.hid hT
        clear cc zz hT
        have e1 : IntKind.i64.wrap ((killed.size : Int) + ((j - i : Nat) : Int) - 1000) = (killed.size : Int) + ((j - i : Nat) : Int) - 1000 := IntWalk.i64_in _ (by omega)
        by_cases hbig : 1000 ≤ killed.size + (j - i)
        · have hm2 := Lib.hid (show ¬ (killed.size : Int) + ((j - i : Nat) : Int) - 1000 < 0 by omega)
          have hm3 := Lib.hid (show (0 : Int) ≤ (killed.size : Int) + ((j - i : Nat) : Int) - 1000 ∧ (killed.size : Int) + ((j - i : Nat) : Int) - 1000 ≤ (killed.size : Int) + ((j - i : Nat) : Int) by omega)
          have hm4 := Lib.hid (show ((killed.size : Int) + ((j - i : Nat) : Int) - 1000).toNat = (killed ++ text.extract i j).size - 1000 by simp; omega)
          go_still_tail 18, (by kernel_rfl)
          refine wpStill_step (fun K hK => ?_)
          go_simp
          simp only [if_neg hm2.out]
          rw [if_pos hm3.out]
          refine ⟨rfl, hK _ ?_⟩
          clear hK K
          repeat still_step
          refine wpStill_nil ?_
          go_wp2_with fail
          have hkt := Lib.hid (show keptT killed (text.extract i j) true = (killed ++ text.extract i j).extract (killed.size + (j - i) - 1000) (killed.size + (j - i)) by
            unfold keptT; rw [if_pos rfl, ByteArray.size_append, size_cut text i j (by omega)])
          rw [← hkt.out]
          refine (erase_any ⟨text, a, keptT killed (text.extract i j) true, true⟩ bv hv place begun b i j _ ((HT.out.set 2 _).set 3 _).drew.2 (by simp; omega) (by simpa using hj) (by simpa using ht)).mono ?_
          rintro e w' ⟨rfl, hT⟩
          go_wp2
          go_end0
          exact ⟨rfl, ((HT.out.set 2 _).set 3 _).drew.trans hT⟩
        · have hm2 := Lib.hid (show (killed.size : Int) + ((j - i : Nat) : Int) - 1000 < 0 by omega)
          have hm3 := Lib.hid (show (0 : Int) ≤ 0 ∧ (0 : Int) ≤ (killed.size : Int) + ((j - i : Nat) : Int) by omega)
          go_still_tail 18, (by kernel_rfl)
          refine wpStill_step (fun K hK => ?_)
          go_simp
          simp only [if_pos hm2.out]
          rw [if_pos hm3.out]
          refine ⟨rfl, hK _ ?_⟩
          clear hK K
          repeat still_step
          refine wpStill_nil ?_
          go_wp2_with fail
          have hkt := Lib.hid (show keptT killed (text.extract i j) true = (killed ++ text.extract i j).extract 0 (killed.size + (j - i)) by
            unfold keptT; rw [if_pos rfl, ByteArray.size_append, size_cut text i j (by omega), show killed.size + (j - i) - 1000 = 0 by omega])
          rw [← hkt.out]
          refine (erase_any ⟨text, a, keptT killed (text.extract i j) true, true⟩ bv hv place begun b i j _ ((HT.out.set 2 _).set 3 _).drew.2 (by simp; omega) (by simpa using hj) (by simpa using ht)).mono ?_
          rintro e w' ⟨rfl, hT⟩
          go_wp2
          go_end0
          exact ⟨rfl, ((HT.out.set 2 _).set 3 _).drew.trans hT⟩
      · have hfin : killD i j true ⟨text, a, killed, killing⟩ = eraD i j ⟨text, a, keptT killed (text.extract i j) false, true⟩ := by simp [killD, eraD, he, hgt]
        rw [hfin]
        clear hfin he
        have g1 : ¬ 9223372036854775807 < j - i + killed.size := by omega
        go_enter Tryz.func81, Tryz.ntmps81
        go_wp2_with fail
        have hT : Turned w b (edC ⟨text, a, text.extract i j ++ killed, killing⟩ bv place begun hv) (w.setCell ⟨b, 2, none⟩ (.string (text.extract i j ++ killed))) := (Turned.refl HB.out).set 2 _
        generalize w.setCell ⟨b, 2, none⟩ (.string (text.extract i j ++ killed)) = w2 at *
        obtain ⟨cc2, zz2⟩ := hT.2.cell
        have HT := Lib.hid hT
        clear cc zz hT
        by_cases hbig : 1000 < j - i + killed.size
        · have hm2 := Lib.hid (show (1000 : Int) < ((j - i : Nat) : Int) + (killed.size : Int) by omega)
          have hm3 := Lib.hid (show (0 : Int) ≤ (1000 : Int) ∧ (1000 : Int) ≤ ((j - i : Nat) : Int) + (killed.size : Int) by omega)
          go_still_tail 17, (by kernel_rfl)
          refine wpStill_step (fun K hK => ?_)
          go_simp
          simp only [if_pos hm2.out]
          rw [if_pos hm3.out]
          refine ⟨rfl, hK _ ?_⟩
          clear hK K
          repeat still_step
          refine wpStill_nil ?_
          go_wp2_with fail
          have hkt := Lib.hid (show keptT killed (text.extract i j) false = (text.extract i j ++ killed).extract 0 1000 by
            unfold keptT; rw [if_neg (by simp), ByteArray.size_append, size_cut text i j (by omega), show min (j - i + killed.size) 1000 = 1000 by omega])
          rw [← hkt.out]
          refine (erase_any ⟨text, a, keptT killed (text.extract i j) false, true⟩ bv hv place begun b i j _ ((HT.out.set 2 _).set 3 _).drew.2 (by simp; omega) (by simpa using hj) (by simpa using ht)).mono ?_
          rintro e w' ⟨rfl, hT⟩
          go_wp2
          go_end0
          exact ⟨rfl, ((HT.out.set 2 _).set 3 _).drew.trans hT⟩
        · have hm2 := Lib.hid (show ¬ (1000 : Int) < ((j - i : Nat) : Int) + (killed.size : Int) by omega)
          have hm3 := Lib.hid (show (0 : Int) ≤ ((j - i : Nat) : Int) + (killed.size : Int) ∧ ((j - i : Nat) : Int) + (killed.size : Int) ≤ ((j - i : Nat) : Int) + (killed.size : Int) by omega)
          go_still_tail 17, (by kernel_rfl)
          refine wpStill_step (fun K hK => ?_)
          go_simp
          simp only [if_neg hm2.out]
          rw [if_pos hm3.out]
          refine ⟨rfl, hK _ ?_⟩
          clear hK K
          repeat still_step
          refine wpStill_nil ?_
          go_wp2_with fail
          have hkt := Lib.hid (show keptT killed (text.extract i j) false = (text.extract i j ++ killed).extract 0 (j - i + killed.size) by
            unfold keptT; rw [if_neg (by simp), ByteArray.size_append, size_cut text i j (by omega), show min (j - i + killed.size) 1000 = (j - i + killed.size) by omega])
          rw [← hkt.out]
          refine (erase_any ⟨text, a, keptT killed (text.extract i j) false, true⟩ bv hv place begun b i j _ ((HT.out.set 2 _).set 3 _).drew.2 (by simp; omega) (by simpa using hj) (by simpa using ht)).mono ?_
          rintro e w' ⟨rfl, hT⟩
          go_wp2
          go_end0
          exact ⟨rfl, ((HT.out.set 2 _).set 3 _).drew.trans hT⟩

end Go.Proofs.YtokmiommhfbkeaaGreatDoor
