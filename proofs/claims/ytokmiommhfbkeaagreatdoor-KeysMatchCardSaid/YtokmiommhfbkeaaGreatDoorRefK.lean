/- The reference's editor, on its line behind a pointer: killing. -/
import Derived.Test.YtokmiommhfbkeaaGreatDoorRefX
namespace Go.Proofs.YtokmiommhfbkeaaGreatDoor
open Go.RowKit

set_option maxRecDepth 100000 in
set_option maxHeartbeats 3200000 in
theorem rkill_any (d : ED) (bv : Value) (place : Int) (begun : ByteArray) (was back : Bool) (b i j : Nat) (w : World) (h : RBox w b (rlC d bv place begun)) (hij : i ≤ j) (hj : j ≤ d.text.size) (ht : d.text.size ≤ 1000) (hk : d.killed.size ≤ 1000) (hbk : i = j ∨ back = !decide (d.a < j)) :
    Calls Tryz.prog 87 #[.pointer (some ⟨b, 0, none⟩), .int .i64 i, .int .i64 j, .bool was, .bool back] w fun e w' => e = .returned (.tuple #[]) ∧ RTurned w b (rlC (killD i j was d) bv place begun) w' := by
  obtain ⟨text, a, killed, killing⟩ := d
  dsimp only at *
  obtain ⟨cc, zz⟩ := h.cell
  have HB := Lib.hid h
  clear h
  by_cases he : i = j
  · have hfin : killD i j was ⟨text, a, killed, killing⟩ = ⟨text, a, killed, killing⟩ := by simp [killD, he]
    rw [hfin]
    clear hfin hbk
    have he2 : ((i : Int) == (j : Int)) = true := by rw [he]; simp
    clear he
    go_enter Tryz.func87, Tryz.ntmps87
    go_wp2
    refine bodyPost_ret (results_none rfl _ _ _) rfl ?_
    exact ⟨rfl, RTurned.refl HB.out⟩
  · have he2 : ((i : Int) == (j : Int)) = false := by rw [beq_eq_false_iff_ne]; omega
    have hbk2 := hbk.resolve_left he
    clear hbk
    have g0 : ¬ 9223372036854775807 < i + (text.size - j) := by omega
    have g9 : i ≤ text.size := by omega
    cases was
    · have hfin : killD i j false ⟨text, a, killed, killing⟩ = ⟨cutT text i j, i, text.extract i j, true⟩ := by simp [killD, he]
      rw [hfin]
      clear hfin he hbk2
      go_enter Tryz.func87, Tryz.ntmps87
      go_wp2_with fail
      go_still_tail 16, (by kernel_rfl)
      go_wp2
      go_end0
      exact ⟨rfl, ((((RTurned.refl HB.out).set 0 _).set 1 _).set 3 _).drew.set 2 _⟩
    · cases hgt : decide (a < j)
      · rw [hgt] at hbk2
        subst hbk2
        have hfin : killD i j true ⟨text, a, killed, killing⟩ = ⟨cutT text i j, i, keptT killed (text.extract i j) false, true⟩ := by simp only [killD, if_neg he, hgt]; rfl
        rw [hfin]
        clear hfin he hgt
        have g1 : ¬ 9223372036854775807 < j - i + killed.size := by omega
        go_enter Tryz.func87, Tryz.ntmps87
        go_wp2_with fail
        go_still_tail 16, (by kernel_rfl)
        go_wp2_with fail
        have hT : RTurned w b (rlC ⟨cutT text i j, i, text.extract i j ++ killed, true⟩ bv place begun) (((((w.setCell ⟨b, 0, none⟩ (.string (text.extract 0 i ++ text.extract j text.size))).setCell ⟨b, 1, none⟩ (.int .i64 i)).setCell ⟨b, 3, none⟩ (.bool true)).setCell ⟨b, 2, none⟩ (.string (text.extract i j ++ killed))).drew) := ((((((RTurned.refl HB.out).set 0 _).set 1 _).set 3 _).set 2 _).drew)
        generalize ((((w.setCell ⟨b, 0, none⟩ (.string (text.extract 0 i ++ text.extract j text.size))).setCell ⟨b, 1, none⟩ (.int .i64 i)).setCell ⟨b, 3, none⟩ (.bool true)).setCell ⟨b, 2, none⟩ (.string (text.extract i j ++ killed))).drew = w2 at *
        obtain ⟨cc2, zz2⟩ := hT.2.cell
        have HT := Lib.hid hT
        clear cc zz hT
        by_cases hbig : 1000 < j - i + killed.size
        · have hm2 := Lib.hid (show (1000 : Int) < ((j - i : Nat) : Int) + (killed.size : Int) by omega)
          have hm3 := Lib.hid (show (0 : Int) ≤ (1000 : Int) ∧ (1000 : Int) ≤ ((j - i : Nat) : Int) + (killed.size : Int) by omega)
          have hkt := Lib.hid (show keptT killed (text.extract i j) false = (text.extract i j ++ killed).extract 0 1000 by
            unfold keptT; rw [if_neg (by simp), ByteArray.size_append, size_cut text i j (by omega), show min (j - i + killed.size) 1000 = 1000 by omega])
          go_still_tail 14, (by kernel_rfl)
          refine wpStill_step (fun K hK => ?_)
          go_simp
          simp only [if_pos hm2.out]
          rw [if_pos hm3.out]
          refine ⟨rfl, hK _ ?_⟩
          clear hK K
          repeat still_step
          refine wpStill_nil ?_
          go_wp2
          go_end0
          rw [hkt.out]
          exact ⟨rfl, (HT.out.set 2 _).drew⟩
        · have hm2 := Lib.hid (show ¬ (1000 : Int) < ((j - i : Nat) : Int) + (killed.size : Int) by omega)
          have hm3 := Lib.hid (show (0 : Int) ≤ ((j - i : Nat) : Int) + (killed.size : Int) ∧ ((j - i : Nat) : Int) + (killed.size : Int) ≤ ((j - i : Nat) : Int) + (killed.size : Int) by omega)
          have hkt := Lib.hid (show keptT killed (text.extract i j) false = (text.extract i j ++ killed).extract 0 (j - i + killed.size) by
            unfold keptT; rw [if_neg (by simp), ByteArray.size_append, size_cut text i j (by omega), show min (j - i + killed.size) 1000 = (j - i + killed.size) by omega])
          go_still_tail 14, (by kernel_rfl)
          refine wpStill_step (fun K hK => ?_)
          go_simp
          simp only [if_neg hm2.out]
          rw [if_pos hm3.out]
          refine ⟨rfl, hK _ ?_⟩
          clear hK K
          repeat still_step
          refine wpStill_nil ?_
          go_wp2
          go_end0
          rw [hkt.out]
          exact ⟨rfl, (HT.out.set 2 _).drew⟩
      · rw [hgt] at hbk2
        subst hbk2
        have hfin : killD i j true ⟨text, a, killed, killing⟩ = ⟨cutT text i j, i, keptT killed (text.extract i j) true, true⟩ := by simp only [killD, if_neg he, hgt]; rfl
        rw [hfin]
        clear hfin he hgt
        have g1 : ¬ 9223372036854775807 < killed.size + (j - i) := by omega
        have e1 : IntKind.i64.wrap ((killed.size : Int) + ((j - i : Nat) : Int) - 1000) = (killed.size : Int) + ((j - i : Nat) : Int) - 1000 := IntWalk.i64_in _ (by omega)
        go_enter Tryz.func87, Tryz.ntmps87
        go_wp2_with fail
        go_still_tail 16, (by kernel_rfl)
        go_wp2_with fail
        have hT : RTurned w b (rlC ⟨cutT text i j, i, killed ++ text.extract i j, true⟩ bv place begun) (((((w.setCell ⟨b, 0, none⟩ (.string (text.extract 0 i ++ text.extract j text.size))).setCell ⟨b, 1, none⟩ (.int .i64 i)).setCell ⟨b, 3, none⟩ (.bool true)).setCell ⟨b, 2, none⟩ (.string (killed ++ text.extract i j))).drew) := ((((((RTurned.refl HB.out).set 0 _).set 1 _).set 3 _).set 2 _).drew)
        generalize ((((w.setCell ⟨b, 0, none⟩ (.string (text.extract 0 i ++ text.extract j text.size))).setCell ⟨b, 1, none⟩ (.int .i64 i)).setCell ⟨b, 3, none⟩ (.bool true)).setCell ⟨b, 2, none⟩ (.string (killed ++ text.extract i j))).drew = w2 at *
        obtain ⟨cc2, zz2⟩ := hT.2.cell
        have HT := Lib.hid hT
        clear cc zz hT
        by_cases hbig : 1000 ≤ killed.size + (j - i)
        · have hm2 := Lib.hid (show ¬ (killed.size : Int) + ((j - i : Nat) : Int) - 1000 < 0 by omega)
          have hm3 := Lib.hid (show (0 : Int) ≤ (killed.size : Int) + ((j - i : Nat) : Int) - 1000 ∧ (killed.size : Int) + ((j - i : Nat) : Int) - 1000 ≤ (killed.size : Int) + ((j - i : Nat) : Int) by omega)
          have hkt := Lib.hid (show keptT killed (text.extract i j) true = (killed ++ text.extract i j).extract (killed.size + (j - i) - 1000) (killed.size + (j - i)) by
            unfold keptT; rw [if_pos rfl, ByteArray.size_append, size_cut text i j (by omega)])
          go_still_tail 15, (by kernel_rfl)
          refine wpStill_step (fun K hK => ?_)
          go_simp
          simp only [if_neg hm2.out]
          rw [if_pos hm3.out]
          refine ⟨rfl, hK _ ?_⟩
          clear hK K
          repeat still_step
          refine wpStill_nil ?_
          go_wp2
          go_end0
          rw [hkt.out]
          exact ⟨rfl, (HT.out.set 2 _).drew⟩
        · have hm2 := Lib.hid (show (killed.size : Int) + ((j - i : Nat) : Int) - 1000 < 0 by omega)
          have hm3 := Lib.hid (show (0 : Int) ≤ 0 ∧ (0 : Int) ≤ (killed.size : Int) + ((j - i : Nat) : Int) by omega)
          have hkt := Lib.hid (show keptT killed (text.extract i j) true = (killed ++ text.extract i j).extract 0 (killed.size + (j - i)) by
            unfold keptT; rw [if_pos rfl, ByteArray.size_append, size_cut text i j (by omega), show killed.size + (j - i) - 1000 = 0 by omega])
          go_still_tail 15, (by kernel_rfl)
          refine wpStill_step (fun K hK => ?_)
          go_simp
          simp only [if_pos hm2.out]
          rw [if_pos hm3.out]
          refine ⟨rfl, hK _ ?_⟩
          clear hK K
          repeat still_step
          refine wpStill_nil ?_
          go_wp2
          go_end0
          rw [hkt.out]
          exact ⟨rfl, (HT.out.set 2 _).drew⟩

end Go.Proofs.YtokmiommhfbkeaaGreatDoor
