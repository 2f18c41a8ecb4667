/- The tree's lists: what a node uses, and a volume. -/
import Derived.Test.YtclhdppepopgeaaGreatDoorTrMem
import Derived.Shelf.SlSortCmp.QuietGrown
namespace Go.Proofs.YtclhdppepopgeaaGreatDoor
open Go.RowKit

/-- how far a world lies behind another one: nothing that was there is changed -/
structure BelowBy (w : World) where
  W : World
  h : Below w.heap.size w W
def BelowBy.refl (w : World) : BelowBy w := ⟨w, Below.refl _ _⟩
instance (w : World) : Inhabited (BelowBy w) := ⟨BelowBy.refl w⟩
theorem wp_region_quiet_below {P : Program} {id : Nat} {Q : Exit → Act → World → Prop} {a : Act} {w : World} {l : List Oper} (hm : P.follows .mixedOrders = true) (hB : Region.lexB .any l.toArray = true)
    (h : wpQuiet P l.toArray (fun w' => ∃ p : BelowBy w, w' = p.W) (fun a' => ∀ w', (∃ p : BelowBy w, w' = p.W) → Q .normal a' w') l a) : (Code.region id l.toArray true).wp P Q a w :=
  wp_region_quiet (C := fun w' => ∃ p : BelowBy w, w' = p.W) hm hB ⟨⟨w.drew, (Below.refl _ _).drew⟩, rfl⟩ (by simpa using h)
theorem calls_below_of {P : Program} {f : FuncId} {args : Array Value} {w : World} {v : Value} (p : BelowBy w)
    (h : Calls P f args p.W fun e w' => e = .returned v ∧ Below p.W.heap.size p.W w') : Calls P f args p.W fun e w'' => e = .returned v ∧ ∃ q : BelowBy w, w'' = q.W :=
  h.mono fun _ w' ⟨he, hb⟩ => ⟨he, ⟨w', p.h.trans (hb.mono p.h.size)⟩, rfl⟩
/-- how many entries an iterator has handed out -/
def seenN (w : World) (r : Nat) : Nat := match w.heap[r]? with | some (.mapIter _ _ seen _) => seen.size | _ => 0
theorem It.seen {w : World} {b r : Nat} {L : List (Value × Value)} {S : List Nat} (h : It w b r L S) : seenN w r = S.length := by
  obtain ⟨c0, h1, _⟩ := h.it
  unfold seenN
  rw [h1]
  simp
theorem It.few {w : World} {b r : Nat} {L : List (Value × Value)} {S : List Nat} (h : It w b r L S) : S.length ≤ L.length := nodup_le _ _ h.nd h.lt
/-- the sizes of the names at some places -/
def sumN (l : AL) (S : List Nat) : Nat := (S.map fun j => (l.getD j (noneB, 0)).1.size).sum
theorem sumN_snoc (l : AL) (S : List Nat) (j : Nat) (h : j < l.length) : sumN l (S ++ [j]) = sumN l S + l[j].1.size := by
  unfold sumN
  rw [List.map_append, List.sum_append]
  simp [List.getD, List.getElem?_eq_getElem h]
theorem sumN_all (l : AL) (S : List Nat) (h : S.Perm (List.range l.length)) : sumN l S = (l.map fun p => p.1.size).sum := by
  have e : sumN l S = sumN l (List.range l.length) := (h.map _).sum_nat
  rw [e]
  unfold sumN
  congr 1
  apply List.ext_getElem
  · simp
  · intro j h1 h2
    simp only [List.length_map, List.length_range] at h1
    simp [List.getD, List.getElem?_eq_getElem h1]
theorem sumN_le (l : AL) (S : List Nat) (h : ∀ p ∈ l, p.1.size ≤ 64) : sumN l S ≤ S.length * 64 := by
  unfold sumN
  induction S with
  | nil => simp
  | cons j S ih =>
    rw [List.map_cons, List.sum_cons, List.length_cons, Nat.succ_mul]
    have : (l.getD j (noneB, 0)).1.size ≤ 64 := by
      rcases Nat.lt_or_ge j l.length with hj | hj
      · rw [List.getD, List.getElem?_eq_getElem hj]
        exact h _ (List.getElem_mem hj)
      · rw [List.getD, List.getElem?_eq_none hj]
        decide
    omega

set_option maxRecDepth 100000 in
set_option maxHeartbeats 3200000 in
theorem weight_any (s : TS) (i : Nat) (t mn : Nat) (nb eb : Nat → Nat) (ch : Int) (vb vo vc : Nat) (w : World) (h : TM w s t mn nb eb ch vb vo vc) (hi : i < s.nds.length) (N : Nat) (hw : WF s N) (hN : N ≤ 3000) :
    Calls Tryz.prog 59 #[ptr (nb i)] w fun e w' => e = .returned (.int .i64 (weightT s i : Int)) ∧ Below w.heap.size w w' := by
  have hn := h.node i hi
  obtain ⟨_, _, c2, _, _, _, _, c10, c11⟩ := hn.cells
  obtain ⟨W, hW⟩ : ∃ W, W = weightT s i := ⟨_, rfl⟩
  rw [← hW]
  have HW := Lib.hid hW
  clear hW
  by_cases h1 : (s.nd i).kind = 1
  · have hf := Lib.hid (show W = (s.nd i).data.size by rw [HW.out]; unfold weightT; rw [if_pos (.inl h1)])
    rw [h1] at c2
    go_enter Tryz.func59, Tryz.ntmps59
    go_wp2_with fail
    go_ret
    exact ⟨ret_int (by rw [hf.out]), Below.refl _ _⟩
  · have h1b : ((s.nd i).kind == 1) = false := beq_eq_false_iff_ne.2 h1
    by_cases h3 : (s.nd i).kind = 3
    · have hf := Lib.hid (show W = (s.nd i).data.size by rw [HW.out]; unfold weightT; rw [if_pos (.inr h3)])
      rw [h3] at c2
      go_enter Tryz.func59, Tryz.ntmps59
      go_wp2_with fail
      go_ret
      exact ⟨ret_int (by rw [hf.out]), Below.refl _ _⟩
    · have h3b : ((s.nd i).kind == 3) = false := beq_eq_false_iff_ne.2 h3
      have hf := Lib.hid (show W = ((s.en i).map fun p => p.1.size).sum by rw [HW.out]; unfold weightT; rw [if_neg (fun h => by rcases h with h | h; exact h1 h; exact h3 h)])
      clear h1 h3
      cases hd : dirK (s.nd i) with
      | false =>
        have he : s.en i = [] := Classical.byContradiction fun hne => by
          have := hw.dir i hne
          rw [hd] at this
          cases this
        have hf2 := Lib.hid (show W = 0 by rw [hf.out, he]; rfl)
        unfold evV at c11
        rw [hd] at c11
        replace c11 : w.cell? ⟨nb i, 11, none⟩ = some (.map none) := c11
        clear hd he
        go_enter Tryz.func59, Tryz.ntmps59
        have hrg : (Instr.range 68 (.map none)).run Tryz.prog w = .ok (.pointer (some ⟨w.heap.size, 0, none⟩)) (w.alloc (.mapIter none 0 #[] 0)) := by
          simp [Instr.range, run_underlying mapE]
        go_wp2_with fail
        obtain ⟨r, hr⟩ : ∃ r, r = w.heap.size := ⟨_, rfl⟩
        obtain ⟨W1, hW1⟩ : ∃ z, z = w.alloc (.mapIter none 0 #[] 0) := ⟨_, rfl⟩
        have hit : W1.heap[r]? = some (.mapIter none 0 #[] 0) := by rw [hW1, hr]; exact (Go.MapKept.heap_alloc w _).1
        have HB1 : Hid (Below w.heap.size w W1) := Lib.hid (by rw [hW1]; exact (Below.refl _ _).alloc (Nat.le_refl _) _)
        have hnx : ∀ ty, (Instr.next (.pointer (some ⟨r, 0, none⟩)) false ty).run Tryz.prog W1 = .ok (.tuple #[.bool false]) W1 := fun ty => by
          simp [Instr.next, getObj, Sem.run, hit]
        rw [← hr, ← hW1]
        clear hr hW1
        go_loopw [3] (fun s3 wr => s3 = .int .i64 0 ∧ wr = W1) (fun _ _ => 0)
        case atStart => exact ⟨rfl, rfl⟩
        case round =>
          obtain ⟨rfl, hwr⟩ := hrel
          subst hwr
          go_wp2_with fail
          go_ret
          exact ⟨ret_int (by rw [hf2.out]; rfl), HB1.out⟩
      | true =>
        have hm := h.ents i hi hd
        unfold evV at c11
        rw [hd] at c11
        replace c11 : w.cell? ⟨nb i, 11, none⟩ = some (.map (some (eb i))) := c11
        have HV := Lib.hid (fun p hp => (hw.val i p hp).2.1)
        have HE := Lib.hid (hw.ent i)
        obtain ⟨hrg, hit⟩ := range_m (P := Tryz.prog) mapE hm
        have HL : Hid (∀ j (hj : j < (sL (entL nb (s.en i))).length), ∃ hj2 : j < (s.en i).length, (sL (entL nb (s.en i)))[j].1 = .string (s.en i)[j].1) := Lib.hid (fun j hj => by
          have hj2 : j < (s.en i).length := by simpa [entL] using hj
          exact ⟨hj2, by simp [entL]⟩)
        have HLL : Hid ((sL (entL nb (s.en i))).length = (s.en i).length) := Lib.hid (by simp [entL])
        obtain ⟨L, hL⟩ : ∃ L, L = sL (entL nb (s.en i)) := ⟨_, rfl⟩
        rw [← hL] at hrg hit HL HLL
        obtain ⟨l, hl⟩ : ∃ l, l = s.en i := ⟨_, rfl⟩
        have HLl : Hid (∀ j (hj : j < L.length), ∃ hj2 : j < l.length, L[j].1 = .string l[j].1) := Lib.hid (by rw [hl]; exact HL.out)
        rw [← hl] at HV HE HLL hf
        clear hL hl HL hm hd
        obtain ⟨eb', heb⟩ : ∃ z, z = eb i := ⟨_, rfl⟩
        rw [← heb] at hrg hit c11
        clear heb
        go_enter Tryz.func59, Tryz.ntmps59
        go_wp2_with fail
        obtain ⟨r, hr⟩ : ∃ r, r = w.heap.size := ⟨_, rfl⟩
        obtain ⟨W1, hW1⟩ : ∃ z, z = w.alloc (.mapIter (some eb') L.length #[] L.length) := ⟨_, rfl⟩
        rw [← hr, ← hW1] at hit
        have HI1 := Lib.hid hit
        have HB1 : Hid (Below r w W1) := Lib.hid (by rw [hW1, hr]; exact (Below.refl _ _).alloc (Nat.le_refl _) _)
        have HR := Lib.hid hr
        rw [← hr, ← hW1]
        clear hr hW1 hit hrg c2 c10 c11 h1b h3b
        go_loopw [3] (fun s3 wr => ∃ (S : List Nat) (z : Nat), s3 = .int .i64 (z : Int) ∧ Hid (z = sumN l S) ∧ Hid (It wr eb' r L S) ∧ Hid (Below r w wr)) (fun _ wr => L.length - seenN wr r)
        case atStart => exact ⟨[], 0, rfl, Lib.hid rfl, HI1, HB1⟩
        case round =>
          obtain ⟨S, z, rfl, HZ, HI, HB⟩ := hrel
          have hzb : z ≤ 3000 * 64 := by
            rw [HZ.out]
            refine Nat.le_trans (sumN_le l S HV.out) (Nat.mul_le_mul ?_ (Nat.le_refl _))
            have := HI.out.few
            rw [HLL.out] at this
            have := HE.out
            omega
          rcases next_m (P := Tryz.prog) HI.out 0 with ⟨hp, hn0⟩ | ⟨j, hj, hnS, w', hn0, hit', hbr, hsz, _, hen⟩
          · have hnx : ∀ ty, (Instr.next (.pointer (some ⟨r, 0, none⟩)) false ty).run Tryz.prog wr = .ok (.tuple #[.bool false]) wr := fun ty => hn0
            have hfz : Hid (W = z) := Lib.hid (by rw [hf.out, HZ.out, sumN_all l S (by rw [← HLL.out]; exact hp)])
            clear hp hn0
            go_wp2_with fail
            go_ret
            exact ⟨ret_int (by rw [hfz.out]), by rw [← HR.out]; exact HB.out⟩
          · obtain ⟨hj2, hkey⟩ := HLl.out j hj
            have HZ2 : Hid (z + l[j].1.size = sumN l (S ++ [j])) := Lib.hid (by rw [sumN_snoc l S j hj2, HZ.out])
            have hls := HV.out _ (List.getElem_mem hj2)
            rw [hkey] at hn0 hen
            generalize l[j].1 = nm at *
            generalize L[j].2 = pv at *
            have hnx : ∀ ty, (Instr.next (.pointer (some ⟨r, 0, none⟩)) false ty).run Tryz.prog wr = .ok (.tuple #[.bool true, .string nm, pv]) w' := fun ty => hn0
            have hz1 : IntKind.i64.wrap ((z : Int) + (nm.size : Int)) = ((z + nm.size : Nat) : Int) := IntWalk.i64_in _ (by omega)
            have HI2 := Lib.hid hit'
            have HB2 : Hid (Below r w w') := Lib.hid (HB.out.trans hbr)
            have HM : Hid (L.length - seenN w' r < L.length - seenN wr r) := Lib.hid (by
              have h1 := hit'.few
              rw [hit'.seen, HI.out.seen]
              rw [List.length_append] at h1 ⊢
              simp at h1 ⊢
              omega)
            clear hn0 hit' hbr hsz hkey hnS hls HI HZ
            go_wp2_with fail
            exact ⟨⟨S ++ [j], z + nm.size, by simp, HZ2, HI2, HB2⟩, HM.out⟩

/-- what the nodes at some places use -/
def sumW (s : TS) (S : List Nat) : Nat := (S.map (weightT s)).sum
theorem weight_le (s : TS) (i N : Nat) (hi : i < s.nds.length) (hw : WF s N) (hN : N ≤ 3000) : weightT s i ≤ 192000 := by
  unfold weightT
  split
  · have := hw.data i hi; omega
  · have h1 := sumN_le (s.en i) (List.range (s.en i).length) (fun p hp => (hw.val i p hp).2.1)
    rw [sumN_all _ _ (.refl _), List.length_range] at h1
    have h2 := hw.ent i
    have h3 : (s.en i).length * 64 ≤ 3000 * 64 := Nat.mul_le_mul (by omega) (Nat.le_refl _)
    omega
theorem sumW_le (s : TS) (N : Nat) (hw : WF s N) (hN : N ≤ 3000) : ∀ (S : List Nat), (∀ i ∈ S, i < s.nds.length) → sumW s S ≤ S.length * 192000
  | [], _ => by simp [sumW]
  | i :: S, h => by
    have h1 := weight_le s i N (h i List.mem_cons_self) hw hN
    have h2 := sumW_le s N hw hN S (fun j hj => h j (List.mem_cons_of_mem _ hj))
    unfold sumW at h2 ⊢
    rw [List.map_cons, List.sum_cons, List.length_cons, Nat.succ_mul]
    omega
theorem sumW_snoc (s : TS) (S : List Nat) (i : Nat) : sumW s (S ++ [i]) = sumW s S + weightT s i := by
  unfold sumW
  rw [List.map_append, List.sum_append]
  simp
set_option maxRecDepth 100000 in
set_option maxHeartbeats 3200000 in
theorem used_any (s : TS) (t mn : Nat) (nb eb : Nat → Nat) (ch : Int) (vb vo vc : Nat) (w : World) (h : TM w s t mn nb eb ch vb vo vc) (N : Nat) (hw : WF s N) (hN : N ≤ 3000) :
    Calls Tryz.prog 43 #[ptr t, .int .i64 0] w fun e w' => e = .returned (.int .i64 (usedT s : Int)) ∧ Below w.heap.size w w' := by
  obtain ⟨c0, _, _, _⟩ := h.cells
  have HT := Lib.hid h
  have HWF := Lib.hid hw
  obtain ⟨hrg, hit⟩ := range_m (P := Tryz.prog) mapN h.nodes
  have HLn : Hid (s.nds.length ≤ 3001) := Lib.hid (by have := hw.few; omega)
  have HLl : Hid (∀ j (hj : j < (iL ((List.range s.nds.length).map fun i => (((i + 1 : Nat) : Int), ptr (nb i)))).length), j < s.nds.length ∧ (iL ((List.range s.nds.length).map fun i => (((i + 1 : Nat) : Int), ptr (nb i))))[j] = (.int .i64 ((j + 1 : Nat) : Int), ptr (nb j))) := Lib.hid (fun j hj => by
    have hj2 : j < s.nds.length := by simpa using hj
    exact ⟨hj2, by simp⟩)
  have HLL : Hid ((iL ((List.range s.nds.length).map fun i => (((i + 1 : Nat) : Int), ptr (nb i)))).length = s.nds.length) := Lib.hid (by simp)
  generalize (iL ((List.range s.nds.length).map fun i => (((i + 1 : Nat) : Int), ptr (nb i)))) = L at *
  obtain ⟨U, hU⟩ : ∃ U, U = usedT s := ⟨_, rfl⟩
  rw [← hU]
  have HU := Lib.hid hU
  clear hU h hw
  go_enter Tryz.func43, Tryz.ntmps43
  go_wp2_with fail
  obtain ⟨r, hr⟩ : ∃ r, r = w.heap.size := ⟨_, rfl⟩
  obtain ⟨W1, hW1⟩ : ∃ z, z = w.alloc (.mapIter (some mn) L.length #[] L.length) := ⟨_, rfl⟩
  rw [← hr, ← hW1] at hit
  have HI1 := Lib.hid hit
  have HB1 : Hid (Below r w W1) := Lib.hid (by rw [hW1, hr]; exact (Below.refl _ _).alloc (Nat.le_refl _) _)
  have HR := Lib.hid hr
  rw [← hr, ← hW1]
  clear hr hW1 hit hrg c0
  go_loopw [5] (fun s5 wr => ∃ (S : List Nat) (z : Nat), s5 = .int .i64 (z : Int) ∧ Hid (z = sumW s S) ∧ Hid (It wr mn r L S) ∧ Hid (Below r w wr)) (fun _ wr => L.length - seenN wr r)
  case atStart => exact ⟨[], 0, rfl, Lib.hid rfl, HI1, HB1⟩
  case round =>
    obtain ⟨S, z, rfl, HZ, HI, HB⟩ := hrel
    have hzb : z ≤ 3001 * 192000 := by
      rw [HZ.out]
      refine Nat.le_trans (sumW_le s N HWF.out hN S (fun i hi => by have := HI.out.lt i hi; rw [HLL.out] at this; exact this)) (Nat.mul_le_mul ?_ (Nat.le_refl _))
      have := HI.out.few
      rw [HLL.out] at this
      have := HLn.out
      omega
    rcases next_m (P := Tryz.prog) HI.out 0 with ⟨hp, hn0⟩ | ⟨j, hj, hnS, w', hn0, hit', hbr, hsz, _, hen⟩
    · have hnx : ∀ ty, (Instr.next (.pointer (some ⟨r, 0, none⟩)) false ty).run Tryz.prog wr = .ok (.tuple #[.bool false]) wr := fun ty => hn0
      have hfz : Hid (U = z) := Lib.hid (by
        rw [HU.out, HZ.out]
        unfold usedT sumW
        rw [HLL.out] at hp
        exact (hp.map _).sum_nat.symm)
      clear hp hn0
      go_wp2_with fail
      go_ret
      exact ⟨ret_int (by rw [hfz.out]), by rw [← HR.out]; exact HB.out⟩
    · obtain ⟨hj2, hkey⟩ := HLl.out j hj
      rw [hkey] at hn0 hen
      have hnx : ∀ ty, (Instr.next (.pointer (some ⟨r, 0, none⟩)) false ty).run Tryz.prog wr = .ok (.tuple #[.bool true, .int .i64 ((j + 1 : Nat) : Int), ptr (nb j)]) w' := fun ty => hn0
      have HBW : Hid (Below w.heap.size w w') := Lib.hid (by
        have h1 := HB.out.trans hbr
        rwa [HR.out] at h1)
      have HTW := Lib.hid (HT.out.keep HBW.out)
      have hnd := HTW.out.node j hj2
      obtain ⟨_, c1, _⟩ := hnd.cells
      have HWG := Lib.hid (weight_any s j t mn nb eb ch vb vo vc w' HTW.out hj2 N HWF.out hN)
      have HZ2 : Hid (z + weightT s j = sumW s (S ++ [j])) := Lib.hid (by rw [sumW_snoc, HZ.out])
      have hwl := weight_le s j N hj2 HWF.out hN
      generalize weightT s j = q at *
      have hz1 : IntKind.i64.wrap ((z : Int) + (q : Int)) = ((z + q : Nat) : Int) := IntWalk.i64_in _ (by omega)
      have HI2 := Lib.hid hit'
      have HBR : Hid (Below r w w') := Lib.hid (HB.out.trans hbr)
      have HM : Hid (L.length - (S.length + 1) < L.length - seenN wr r) := Lib.hid (by
        have h1 := hit'.few
        rw [HI.out.seen]
        rw [List.length_append] at h1
        simp at h1
        omega)
      clear hn0 hit' hbr hsz hkey hnS hwl HI HZ hnd
      go_wp2_with fail
      refine HWG.out.mono ?_
      rintro e w3 ⟨rfl, hb3⟩
      have HI3 := Lib.hid (HI2.out.keep hb3)
      have HB3 : Hid (Below r w w3) := Lib.hid (HBR.out.trans (hb3.mono (by
        have h1 := HI2.out.it
        obtain ⟨c0, h1, _⟩ := h1
        have := (Array.getElem?_eq_some_iff.1 h1).1
        omega)))
      clear hb3
      go_wp2_with fail
      exact ⟨⟨S ++ [j], z + q, by simp, HZ2, HI3, HB3⟩, by rw [HI3.out.seen, List.length_append]; exact HM.out⟩
set_option maxRecDepth 100000 in
set_option maxHeartbeats 3200000 in
theorem fits_any (s : TS) (t mn : Nat) (nb eb : Nat → Nat) (ch : Int) (vb vo vc : Nat) (w : World) (h : TM w s t mn nb eb ch vb vo vc) (N : Nat) (hw : WF s N) (hN : N ≤ 3000) :
    Calls Tryz.prog 23 #[ptr t, .int .i64 0, .int .i64 0] w fun e w' => e = .returned (.bool (decide (usedT s ≤ 1048576))) ∧ Below w.heap.size w w' := by
  have mixed : Tryz.prog.follows .mixedOrders = true := by kernel_rfl
  obtain ⟨W0, hW0⟩ : ∃ W0, W0 = w := ⟨_, rfl⟩
  have HU := Lib.hid (fun W (hb : Below w.heap.size w W) => used_any s t mn nb eb ch vb vo vc W (h.keep hb) N hw hN)
  have hub : usedT s ≤ 3001 * 192000 := by
    have h1 := sumW_le s N hw hN (List.range s.nds.length) (fun i hi => List.mem_range.1 hi)
    rw [List.length_range] at h1
    have h2 : s.nds.length * 192000 ≤ 3001 * 192000 := Nat.mul_le_mul (by have := hw.few; omega) (Nat.le_refl _)
    exact Nat.le_trans h1 h2
  have HF : Hid (decide (usedT s ≤ 1048576) = decide ((usedT s : Int) ≤ 1048576)) := Lib.hid (decide_eq_decide.2 (by omega))
  have HT := Lib.hid h
  rw [HF.out]
  generalize usedT s = q at *
  have c3 := fun p : BelowBy w => (HT.out.keep p.h).cells.2.2.2
  have v0 := fun p : BelowBy w => (HT.out.keep p.h).vol
  have o0 : ∀ p : BelowBy w, p.W.cell? ⟨vo, 0, none⟩ = some (.int .i64 1048576) := fun p => by
    have := (HT.out.keep p.h).volb
    simp [World.cell?, this]
  have hw1 : IntKind.i64.wrap (q : Int) = (q : Int) := IntWalk.i64_in _ (by omega)
  clear h hw hW0 HF
  go_enter Tryz.func23, Tryz.ntmps23
  go_upto_region 1 with fail
  refine wp_region_quiet_below (by assumption) (by kernel_rfl) ?_
  repeat (quiet_step (first | (go_at_call 43; refine calls_below_of _ (HU.out _ (by first | exact BelowBy.h _)))))
  refine wpQuiet_nil ?_
  rintro wz ⟨⟨wy, hbq⟩, hwz⟩
  replace hwz : wz = wy := hwz
  subst hwz
  try dsimp only
  have HDz := Lib.hid hbq
  clear hbq c3 v0 o0
  go_wp2_with fail
  go_ret
  exact ⟨rfl, HDz.out⟩
end Go.Proofs.YtclhdppepopgeaaGreatDoor
