/- The tree's lists, the reference: what a volume uses. -/
import Derived.Test.YtclhdppepopgeaaGreatDoorTfPut
import Derived.Test.YtclhdppepopgeaaGreatDoorTrUse
namespace Go.Proofs.YtclhdppepopgeaaGreatDoor
open Go.RowKit

theorem weight_dir (s : TS) (j : Nat) (h : dirK (s.nd j) = true) : weightT s j = ((s.en j).map fun p => p.1.size).sum := by
  have h2 : (s.nd j).kind = 2 := by unfold dirK at h; simpa using h
  unfold weightT
  rw [if_neg (by rw [h2]; decide)]
theorem weight_file (s : TS) (j : Nat) (h : (s.nd j).kind = 1 ∨ (s.nd j).kind = 3) : weightT s j = (s.nd j).data.size := by
  unfold weightT
  rw [if_pos h]
theorem weight_none (s : TS) (j : Nat) (h : ¬ ((s.nd j).kind = 1 ∨ (s.nd j).kind = 3)) (he : s.en j = []) : weightT s j = 0 := by
  unfold weightT
  rw [if_neg h, he]
  rfl
theorem undV : Tryz.prog.underlying 48 = some (.pointer 47) := by kernel_rfl
theorem infoV0 : (Tryz.prog.info? 47).map (fun i => i.size) = some 5 := by kernel_rfl
theorem infoV : ∃ j, Tryz.prog.info? 47 = some j ∧ j.size ≠ 0 := by
  have h := infoV0
  cases hj : Tryz.prog.info? 47 with
  | none => rw [hj] at h; cases h
  | some j =>
    rw [hj] at h
    have h2 : j.size = 5 := by injection h
    exact ⟨j, rfl, by rw [h2]; decide⟩
/-- a volume is itself -/
theorem neq_self {w : World} {b : Nat} (h : Cellar w b) : (binOp BinOp.neq 48 (ptr b) (ptr b)).run Tryz.prog w = .ok (.bool false) w := by
  obtain ⟨j, hj1, hj2⟩ := infoV
  have e := eq_ptr undV hj1 hj2 h h
  rw [decide_eq_true rfl] at e
  simp [binOp, e, Result.andThen]
set_option maxRecDepth 100000 in
set_option maxHeartbeats 3200000 in
theorem rused_any (w : World) (B : Nat) (s : TS) (t mn kn : Nat) (nb eb : Nat → Nat) (ch : Int) (vb vo vc : Nat) (h : RL w B s t mn kn nb eb ch vb vo vc) (N : Nat) (hw : WF s N) (hN : N ≤ 3000) :
    Calls Tryz.prog 17 #[ptr t, ptr vo] w fun e w' => e = .returned (.int .i64 (usedT s : Int)) ∧ Below w.heap.size w w' := by
  have htr := h.tree
  have c0 : w.cell? ⟨t, 0, none⟩ = some (.map (some mn)) := by simp [World.cell?, htr]
  clear htr
  have HT := Lib.hid h
  have HWF := Lib.hid hw
  obtain ⟨hrg, hit⟩ := range_m (P := Tryz.prog) rmapN h.tc.nodes
  have HLn : Hid (s.nds.length ≤ 3001) := Lib.hid (by have := hw.few; omega)
  have HLl : Hid (∀ j (hj : j < (iL ((List.range s.nds.length).map fun i => (((i + 1 : Nat) : Int), ptr (nb i)))).length), j < s.nds.length ∧ (iL ((List.range s.nds.length).map fun i => (((i + 1 : Nat) : Int), ptr (nb i))))[j] = (.int .i64 ((j + 1 : Nat) : Int), ptr (nb j))) := Lib.hid (fun j hj => by
    have hj2 : j < s.nds.length := by simpa using hj
    exact ⟨hj2, by simp⟩)
  have HLL : Hid ((iL ((List.range s.nds.length).map fun i => (((i + 1 : Nat) : Int), ptr (nb i)))).length = s.nds.length) := Lib.hid (by simp)
  generalize (iL ((List.range s.nds.length).map fun i => (((i + 1 : Nat) : Int), ptr (nb i)))) = L at *
  obtain ⟨U, hU⟩ : ∃ U, U = usedT s := ⟨_, rfl⟩
  rw [← hU]
  have HU := Lib.hid hU
  clear hU h hw
  go_enter Tryz.func17, Tryz.ntmps17
  go_wp2_with fail
  obtain ⟨r, hr⟩ : ∃ r, r = w.heap.size := ⟨_, rfl⟩
  obtain ⟨W1, hW1⟩ : ∃ z, z = w.alloc (.mapIter (some mn) L.length #[] L.length) := ⟨_, rfl⟩
  rw [← hr, ← hW1] at hit
  have HI1 := Lib.hid hit
  have HB1 : Hid (Below r w W1) := Lib.hid (by rw [hW1, hr]; exact (Below.refl _ _).alloc (Nat.le_refl _) _)
  have HR := Lib.hid hr
  rw [← hr, ← hW1]
  clear hr hW1 hit hrg c0
  go_loopw [5] (fun s5 wr => ∃ (S : List Nat) (z : Nat), s5 = .int .i64 (z : Int) ∧ Hid (z = sumW s S) ∧ Hid (It wr mn r L S) ∧ Hid (Below r w wr)) (fun _ wr => L.length - seenN wr r)
  case atStart => exact ⟨[], 0, rfl, Lib.hid rfl, HI1, HB1⟩
  case round =>
    obtain ⟨S, z, rfl, HZ, HI, HB⟩ := hrel
    have hzb : z ≤ 3001 * 192000 := by
      rw [HZ.out]
      refine Nat.le_trans (sumW_le s N HWF.out hN S (fun i hi => by have := HI.out.lt i hi; rw [HLL.out] at this; exact this)) (Nat.mul_le_mul ?_ (Nat.le_refl _))
      have := HI.out.few
      rw [HLL.out] at this
      have := HLn.out
      omega
    rcases next_m (P := Tryz.prog) HI.out 0 with ⟨hp, hn0⟩ | ⟨j, hj, hnS, w', hn0, hit', hbr, hsz, _, hen⟩
    · have hnx : ∀ ty, (Instr.next (.pointer (some ⟨r, 0, none⟩)) false ty).run Tryz.prog wr = .ok (.tuple #[.bool false]) wr := fun ty => hn0
      have hfz : Hid (U = z) := Lib.hid (by
        rw [HU.out, HZ.out]
        unfold usedT sumW
        rw [HLL.out] at hp
        exact (hp.map _).sum_nat.symm)
      clear hp hn0
      go_wp2_with fail
      go_ret
      exact ⟨ret_int (by rw [hfz.out]), by rw [← HR.out]; exact HB.out⟩
    · obtain ⟨hj2, hkey⟩ := HLl.out j hj
      rw [hkey] at hn0 hen
      have hnx : ∀ ty, (Instr.next (.pointer (some ⟨r, 0, none⟩)) false ty).run Tryz.prog wr = .ok (.tuple #[.bool true, .int .i64 ((j + 1 : Nat) : Int), ptr (nb j)]) w' := fun ty => hn0
      have HBW : Hid (Below w.heap.size w w') := Lib.hid (by
        have h1 := HB.out.trans hbr
        rwa [HR.out] at h1)
      have HTW := Lib.hid (HT.out.keep HBW.out)
      obtain ⟨_, c1, _, _, _, c5, c6, c7, _⟩ := (HTW.out.tc.node j hj2).cells
      have hne := neq_self (w := w') (b := vo) ⟨_, _, HTW.out.volb⟩
      have HZ2 : Hid (z + weightT s j = sumW s (S ++ [j])) := Lib.hid (by rw [sumW_snoc, HZ.out])
      have hwl := weight_le s j N hj2 HWF.out hN
      have HI2 := Lib.hid hit'
      have HBR : Hid (Below r w w') := Lib.hid (HB.out.trans hbr)
      have HM : Hid (L.length - (S.length + 1) < L.length - seenN wr r) := Lib.hid (by
        have h1 := hit'.few
        rw [HI.out.seen]
        rw [List.length_append] at h1
        simp at h1
        omega)
      clear hn0 hit' hbr hsz hkey hnS HI HZ
      have HRL : Hid (r ≤ w'.heap.size) := Lib.hid (by
        obtain ⟨c0, h1, _⟩ := HI2.out.it
        have := (Array.getElem?_eq_some_iff.1 h1).1
        omega)
      obtain ⟨wO, hwO⟩ : ∃ x, x = wr := ⟨_, rfl⟩
      subst hwO
      obtain ⟨w1, hw1⟩ : ∃ x, x = w' := ⟨_, rfl⟩
      subst hw1
      by_cases hk1 : (s.nd j).kind = 1
      · have hdj : dirK (s.nd j) = false := by unfold dirK; rw [hk1]; rfl
        have hwt := weight_file s j (.inl hk1)
        rw [hwt] at hwl
        have HZ3 : Hid (z + (s.nd j).data.size = sumW s (S ++ [j])) := Lib.hid (by rw [← hwt]; exact HZ2.out)
        rw [hk1] at c1
        clear hwt
        have hev : evV (s.nd j) (eb j) = .map none := by unfold evV; rw [hdj]; rfl
        rw [hev] at c7
        have hrg2 : (Instr.range 53 (.map none)).run Tryz.prog w1 = .ok (.pointer (some ⟨w1.heap.size, 0, none⟩)) (w1.alloc (.mapIter none 0 #[] 0)) := by simp [Instr.range, run_underlying rmapE]
        obtain ⟨r2, hr2⟩ : ∃ r, r = w1.heap.size := ⟨_, rfl⟩
        obtain ⟨W2, hW2⟩ : ∃ z, z = w1.alloc (.mapIter none 0 #[] 0) := ⟨_, rfl⟩
        have hit2 : W2.heap[r2]? = some (.mapIter none 0 #[] 0) := by rw [hW2, hr2]; exact (Go.MapKept.heap_alloc w1 _).1
        have hb2 : Below w1.heap.size w1 W2 := by rw [hW2]; exact (Below.refl _ _).alloc (Nat.le_refl _) _
        have HI3 := Lib.hid (HI2.out.keep hb2)
        have HB3 : Hid (Below r w W2) := Lib.hid (HBR.out.trans (hb2.mono HRL.out))
        have hnx2 : ∀ ty, (Instr.next (.pointer (some ⟨r2, 0, none⟩)) false ty).run Tryz.prog W2 = .ok (.tuple #[.bool false]) W2 := fun ty => by
          simp [Instr.next, getObj, Sem.run, hit2]
        rw [← hr2, ← hW2] at hrg2
        have hz1 : IntKind.i64.wrap ((z : Int) + ((s.nd j).data.size : Int)) = ((z + (s.nd j).data.size : Nat) : Int) := IntWalk.i64_in _ (by omega)
        clear hr2 hW2 hit2 hb2 hev hdj
        go_wp2_with fail
        go_loopw [5] (fun s5 wx => s5 = .int .i64 ((z + (s.nd j).data.size : Nat) : Int) ∧ wx = W2) (fun _ _ => 0)
        case atStart => exact ⟨rfl, rfl⟩
        case round =>
          obtain ⟨rfl, hwr2⟩ := hrel
          subst hwr2
          go_wp2_with fail
          exact ⟨⟨S ++ [j], z + (s.nd j).data.size, rfl, HZ3, HI3, HB3⟩, by rw [HI3.out.seen, List.length_append]; exact HM.out⟩
      · have hk1b : ((s.nd j).kind == 1) = false := beq_eq_false_iff_ne.2 hk1
        by_cases hk3 : (s.nd j).kind = 3
        · have hdj : dirK (s.nd j) = false := by unfold dirK; rw [hk3]; rfl
          have hwt := weight_file s j (.inr hk3)
          rw [hwt] at hwl
          have HZ3 : Hid (z + (s.nd j).data.size = sumW s (S ++ [j])) := Lib.hid (by rw [← hwt]; exact HZ2.out)
          rw [hk3] at c1
          clear hwt hk1b
          have hev : evV (s.nd j) (eb j) = .map none := by unfold evV; rw [hdj]; rfl
          rw [hev] at c7
          have hrg2 : (Instr.range 53 (.map none)).run Tryz.prog w1 = .ok (.pointer (some ⟨w1.heap.size, 0, none⟩)) (w1.alloc (.mapIter none 0 #[] 0)) := by simp [Instr.range, run_underlying rmapE]
          obtain ⟨r2, hr2⟩ : ∃ r, r = w1.heap.size := ⟨_, rfl⟩
          obtain ⟨W2, hW2⟩ : ∃ z, z = w1.alloc (.mapIter none 0 #[] 0) := ⟨_, rfl⟩
          have hit2 : W2.heap[r2]? = some (.mapIter none 0 #[] 0) := by rw [hW2, hr2]; exact (Go.MapKept.heap_alloc w1 _).1
          have hb2 : Below w1.heap.size w1 W2 := by rw [hW2]; exact (Below.refl _ _).alloc (Nat.le_refl _) _
          have HI3 := Lib.hid (HI2.out.keep hb2)
          have HB3 : Hid (Below r w W2) := Lib.hid (HBR.out.trans (hb2.mono HRL.out))
          have hnx2 : ∀ ty, (Instr.next (.pointer (some ⟨r2, 0, none⟩)) false ty).run Tryz.prog W2 = .ok (.tuple #[.bool false]) W2 := fun ty => by
            simp [Instr.next, getObj, Sem.run, hit2]
          rw [← hr2, ← hW2] at hrg2
          have hz1 : IntKind.i64.wrap ((z : Int) + ((s.nd j).data.size : Int)) = ((z + (s.nd j).data.size : Nat) : Int) := IntWalk.i64_in _ (by omega)
          clear hr2 hW2 hit2 hb2 hev hdj
          go_wp2_with fail
          go_loopw [5] (fun s5 wx => s5 = .int .i64 ((z + (s.nd j).data.size : Nat) : Int) ∧ wx = W2) (fun _ _ => 0)
          case atStart => exact ⟨rfl, rfl⟩
          case round =>
            obtain ⟨rfl, hwr2⟩ := hrel
            subst hwr2
            go_wp2_with fail
            exact ⟨⟨S ++ [j], z + (s.nd j).data.size, rfl, HZ3, HI3, HB3⟩, by rw [HI3.out.seen, List.length_append]; exact HM.out⟩
        · have hk3b : ((s.nd j).kind == 3) = false := beq_eq_false_iff_ne.2 hk3
          cases hdj : dirK (s.nd j) with
          | false =>
            have he : s.en j = [] := Classical.byContradiction fun hne => by
              have := HWF.out.dir j hne
              rw [hdj] at this
              cases this
            have HZ3 : Hid (z = sumW s (S ++ [j])) := Lib.hid (by rw [← HZ2.out, weight_none s j (fun h => by rcases h with h | h; exact hk1 h; exact hk3 h) he]; rfl)
            clear he
            have hev : evV (s.nd j) (eb j) = .map none := by unfold evV; rw [hdj]; rfl
            rw [hev] at c7
            have hrg2 : (Instr.range 53 (.map none)).run Tryz.prog w1 = .ok (.pointer (some ⟨w1.heap.size, 0, none⟩)) (w1.alloc (.mapIter none 0 #[] 0)) := by simp [Instr.range, run_underlying rmapE]
            obtain ⟨r2, hr2⟩ : ∃ r, r = w1.heap.size := ⟨_, rfl⟩
            obtain ⟨W2, hW2⟩ : ∃ z, z = w1.alloc (.mapIter none 0 #[] 0) := ⟨_, rfl⟩
            have hit2 : W2.heap[r2]? = some (.mapIter none 0 #[] 0) := by rw [hW2, hr2]; exact (Go.MapKept.heap_alloc w1 _).1
            have hb2 : Below w1.heap.size w1 W2 := by rw [hW2]; exact (Below.refl _ _).alloc (Nat.le_refl _) _
            have HI3 := Lib.hid (HI2.out.keep hb2)
            have HB3 : Hid (Below r w W2) := Lib.hid (HBR.out.trans (hb2.mono HRL.out))
            have hnx2 : ∀ ty, (Instr.next (.pointer (some ⟨r2, 0, none⟩)) false ty).run Tryz.prog W2 = .ok (.tuple #[.bool false]) W2 := fun ty => by
              simp [Instr.next, getObj, Sem.run, hit2]
            rw [← hr2, ← hW2] at hrg2
            clear hr2 hW2 hit2 hb2 hev hdj
            go_wp2_with fail
            go_loopw [5] (fun s5 wx => s5 = .int .i64 ((z : Nat) : Int) ∧ wx = W2) (fun _ _ => 0)
            case atStart => exact ⟨rfl, rfl⟩
            case round =>
              obtain ⟨rfl, hwr2⟩ := hrel
              subst hwr2
              go_wp2_with fail
              exact ⟨⟨S ++ [j], z, rfl, HZ3, HI3, HB3⟩, by rw [HI3.out.seen, List.length_append]; exact HM.out⟩
          | true =>
            have hm2 := HTW.out.tc.ents j hj2 hdj
            have hev : evV (s.nd j) (eb j) = .map (some (eb j)) := by unfold evV; rw [hdj]; rfl
            rw [hev] at c7
            have HQW : Hid (weightT s j = ((s.en j).map fun p => p.1.size).sum) := Lib.hid (weight_dir s j hdj)
            have HV := Lib.hid (fun p hp => (HWF.out.val j p hp).2.1)
            have HE := Lib.hid (HWF.out.ent j)
            obtain ⟨hrg2, hit2⟩ := range_m (P := Tryz.prog) rmapE hm2
            have HL2 : Hid (∀ q (hq : q < (sL (entL nb (s.en j))).length), ∃ hq2 : q < (s.en j).length, (sL (entL nb (s.en j)))[q].1 = .string (s.en j)[q].1) := Lib.hid (fun q hq => by
              have hq2 : q < (s.en j).length := by simpa [entL] using hq
              exact ⟨hq2, by simp [entL]⟩)
            have HLL2 : Hid ((sL (entL nb (s.en j))).length = (s.en j).length) := Lib.hid (by simp [entL])
            obtain ⟨M, hM⟩ : ∃ M, M = sL (entL nb (s.en j)) := ⟨_, rfl⟩
            rw [← hM] at hrg2 hit2 HL2 HLL2
            obtain ⟨l, hl⟩ : ∃ l, l = s.en j := ⟨_, rfl⟩
            have HLl2 : Hid (∀ q (hq : q < M.length), ∃ hq2 : q < l.length, M[q].1 = .string l[q].1) := Lib.hid (by rw [hl]; exact HL2.out)
            rw [← hl] at HV HE HLL2 HQW
            clear hM hl HL2 hm2 hdj hev
            obtain ⟨eb', heb⟩ : ∃ z, z = eb j := ⟨_, rfl⟩
            rw [← heb] at hrg2 hit2 c7
            clear heb
            obtain ⟨r2, hr2⟩ : ∃ r, r = w1.heap.size := ⟨_, rfl⟩
            obtain ⟨W2, hW2⟩ : ∃ z, z = w1.alloc (.mapIter (some eb') M.length #[] M.length) := ⟨_, rfl⟩
            rw [← hr2, ← hW2] at hit2 hrg2
            have HI3 := Lib.hid hit2
            have HB3 : Hid (Below r2 w1 W2) := Lib.hid (by rw [hW2, hr2]; exact (Below.refl _ _).alloc (Nat.le_refl _) _)
            have HR2 := Lib.hid hr2
            clear hr2 hW2 hit2
            go_wp2_with fail
            go_loopw [5] (fun s5 wx => ∃ (T : List Nat) (y : Nat), s5 = .int .i64 (y : Int) ∧ Hid (y = z + sumN l T) ∧ Hid (It wx eb' r2 M T) ∧ Hid (Below r2 w1 wx)) (fun _ wx => M.length - seenN wx r2)
            case atStart => exact ⟨[], z, rfl, Lib.hid rfl, HI3, HB3⟩
            case round =>
              obtain ⟨T, y, rfl, HY, HJ, HC⟩ := hrel
              have hyb : y ≤ 3001 * 192000 + 3000 * 64 := by
                rw [HY.out]
                refine Nat.add_le_add hzb (Nat.le_trans (sumN_le l T HV.out) (Nat.mul_le_mul ?_ (Nat.le_refl _)))
                have := HJ.out.few
                rw [HLL2.out] at this
                have := HE.out
                omega
              rcases next_m (P := Tryz.prog) HJ.out 0 with ⟨hp, hn0⟩ | ⟨q, hq, hqT, w2, hn0, hit', hbr, hsz, _, hen⟩
              · have hnx2 : ∀ ty, (Instr.next (.pointer (some ⟨r2, 0, none⟩)) false ty).run Tryz.prog wr = .ok (.tuple #[.bool false]) wr := fun ty => hn0
                have HZ3 : Hid (y = sumW s (S ++ [j])) := Lib.hid (by rw [← HZ2.out, HQW.out, HY.out, sumN_all l T (by rw [← HLL2.out]; exact hp)])
                have HCB : Hid (Below w1.heap.size w1 wr) := Lib.hid (by rw [← HR2.out]; exact HC.out)
                have HI4 := Lib.hid (HI2.out.keep HCB.out)
                have HB4 : Hid (Below r w wr) := Lib.hid (HBR.out.trans (HCB.out.mono HRL.out))
                clear hp hn0
                go_wp2_with fail
                exact ⟨⟨S ++ [j], y, rfl, HZ3, HI4, HB4⟩, by rw [HI4.out.seen, List.length_append]; exact HM.out⟩
              · obtain ⟨hq2, hkey⟩ := HLl2.out q hq
                have HY2 : Hid (y + l[q].1.size = z + sumN l (T ++ [q])) := Lib.hid (by rw [sumN_snoc l T q hq2, HY.out]; omega)
                have hls := HV.out _ (List.getElem_mem hq2)
                rw [hkey] at hn0 hen
                generalize l[q].1 = nm at *
                generalize M[q].2 = pv at *
                have hnx2 : ∀ ty, (Instr.next (.pointer (some ⟨r2, 0, none⟩)) false ty).run Tryz.prog wr = .ok (.tuple #[.bool true, .string nm, pv]) w2 := fun ty => hn0
                have hz1 : IntKind.i64.wrap ((y : Int) + (nm.size : Int)) = ((y + nm.size : Nat) : Int) := IntWalk.i64_in _ (by omega)
                have HJ2 := Lib.hid hit'
                have HC2 : Hid (Below r2 w1 w2) := Lib.hid (HC.out.trans hbr)
                have HM2 : Hid (M.length - seenN w2 r2 < M.length - seenN wr r2) := Lib.hid (by
                  have h1 := hit'.few
                  rw [hit'.seen, HJ.out.seen]
                  rw [List.length_append] at h1 ⊢
                  simp at h1 ⊢
                  omega)
                clear hn0 hit' hbr hsz hkey hqT hls HJ HY
                go_wp2_with fail
                exact ⟨⟨T ++ [q], y + nm.size, by simp, HY2, HJ2, HC2⟩, HM2.out⟩
end Go.Proofs.YtclhdppepopgeaaGreatDoor
