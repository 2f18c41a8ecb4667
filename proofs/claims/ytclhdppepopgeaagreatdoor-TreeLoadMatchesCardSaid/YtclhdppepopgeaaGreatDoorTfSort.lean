/- The tree's lists, the reference: the names of a node in order. -/
import Derived.Test.YtclhdppepopgeaaGreatDoorTfPut
import Derived.Test.YtclhdppepopgeaaGreatDoorTrUse
import Derived.Test.YtclhdppepopgeaaGreatDoorTrDmpM
import Derived.Sort.OwnSorted
namespace Go.Proofs.YtclhdppepopgeaaGreatDoor
open Go.RowKit

theorem strInfo : (Tryz.prog.info? 9).map (fun i => (i.zero, i.size, i.bytes)) = some (some (.string ByteArray.empty), 1, 16) := by kernel_rfl
/-- a list of texts that is built, above a base -/
def OwnS (base : Nat) (v : Value) (L : List ByteArray) (w : World) : Prop := w.ownsRow base 9 1 v L.length (L.map Value.string)
theorem OwnS.nil (base : Nat) (w : World) : OwnS base (.slice none 0 0) [] w := World.ownsRow_nil _ _ _ _
theorem OwnS.form {base : Nat} {v : Value} {L : List ByteArray} {w : World} (h : OwnS base v L w) : ∃ A c, v = .slice A L.length c := own_form h
/-- .. stays where one block turns that is no row -/
theorem OwnS.stay {base : Nat} {v : Value} {L : List ByteArray} {w w' : World} {r : Nat} (h : OwnS base v L w) (hb : Below r w w') (hs : w'.heap.size = w.heap.size) (ho : ∀ k, k ≠ r → w'.heap[k]? = w.heap[k]?) (hr : ∀ cs T fr, w.heap[r]? ≠ some (.cells cs T fr)) : OwnS base v L w' :=
  World.ownsRow.kept (row := some r) h ⟨hb.os, hb.tape, hb.output, Nat.le_of_eq hs.symm, fun k _ hk => ho k (fun e => hk (by rw [e]))⟩ (.inr (fun e => by
    obtain ⟨cur, hc⟩ := own_block_is h r e
    exact hr _ _ _ hc))
/-- blocks that are no rows of texts stay -/
def OthS (w w' : World) : Prop := ∀ (b : Nat) (o : Obj), w.heap[b]? = some o → (∀ cs fr, o ≠ .cells cs 9 fr) → w'.heap[b]? = some o
theorem app_str {ops : Array Oper} {rest : List Oper} {o : Oper} {a : Act} {Q : Exit → Act → World → Prop} {w : World} (hgd : o.guard = none) (s x : Operand)
    (ho : o.op = .call { callee := .builtin .append, args := #[s, x], argTypes := #[95, 95] })
    (base : Nat) (v : Value) (L : List ByteArray) (hown : OwnS base v L w) (hs : a.eval s = v) (y : ByteArray) (hx : a.eval x = .slice (some ⟨w.heap.size, 0, none⟩) 1 1)
    (hL : L.length ≤ 10000000) (hbase : base ≤ w.heap.size)
    (h : ∀ A c w', OwnS base (.slice A (L.length + 1) c) (L ++ [y]) w' → Below base w w' → OthS w w' → wpList Tryz.prog ops Q rest (a.put o.dst (.slice A (L.length + 1) c)) w') : wpList Tryz.prog ops Q (o :: rest) a (w.alloc (.cells #[.string y] 9)) := by
  obtain ⟨i0, hi, hz0, hz1, hz2⟩ := info_parts strInfo
  have hO : (w.alloc (.cells #[.string y] 9)).ownsRow base 9 1 v L.length (L.map Value.string) := World.ownsRow.alloc hown _
  refine wpList_append_own _ hgd s x 95 ho base 9 i0 (.string ByteArray.empty) 1 16 Tryz.underlying95 hi hz0 hz1 hz2 rfl (by decide) v L.length (L.map Value.string) hs hO ⟨w.heap.size, 0, none⟩ 1 1 [.string y] hx rfl (new_row w [.string y] 9) (fun u hu => by simp at hu; subst hu; rfl) (by unfold maxLen; omega) (by omega) (by simp; omega) ?_
  intro v' w' h1 h2 _
  have h3 : OwnS base v' (L ++ [y]) w' := by
    unfold OwnS
    rw [List.length_append, List.map_append]
    exact h1
  obtain ⟨A, c, rfl⟩ := h3.form
  have hl : (L ++ [y]).length = L.length + 1 := by simp
  rw [hl] at h3 ⊢
  refine h A c w' h3 (((Below.refl base w).alloc hbase _).grown h2 (by simp; omega) (fun g hg => (World.ownsRow.lt hO g hg).1)) (fun b o hb hT => ?_)
  have hlt : b < w.heap.size := (Array.getElem?_eq_some_iff.1 hb).1
  have hb2 : (w.alloc (.cells #[.string y] 9)).heap[b]? = some o := (Below.heap_alloc _ _ _ hlt).trans hb
  exact (h2.block b (by simp; omega) (fun e => by
    obtain ⟨cur, hc⟩ := own_block_is hO b e.symm
    rw [hb2] at hc
    injection hc with hc
    exact hT _ _ hc)).trans hb2
/-- the names at some places -/
def nmsAt (l : AL) (S : List Nat) : List ByteArray := S.map fun j => (l.getD j (noneB, 0)).1
theorem nmsAt_snoc (l : AL) (S : List Nat) (j : Nat) (h : j < l.length) : nmsAt l (S ++ [j]) = nmsAt l S ++ [l[j].1] := by
  unfold nmsAt
  rw [List.map_append]
  simp [List.getD, List.getElem?_eq_getElem h]
theorem nmsAt_perm (l : AL) (S : List Nat) (h : S.Perm (List.range l.length)) : ((nmsAt l S).map fun b => b.data.toList).Perm (l.map fun p => p.1.data.toList) := by
  unfold nmsAt
  rw [List.map_map]
  refine (h.map _).trans ?_
  have e : (List.range l.length).map ((fun b : ByteArray => b.data.toList) ∘ fun j => (l.getD j (noneB, 0)).1) = l.map fun p => p.1.data.toList := by
    apply List.ext_getElem
    · simp
    · intro j h1 h2
      simp only [List.length_map, List.length_range] at h1
      simp [List.getD, List.getElem?_eq_getElem h1]
  rw [e]
theorem enc_names (L : List ByteArray) : (L.map fun b => b.data.toList).map encStr = L.map Value.string := by
  rw [List.map_map]
  exact List.map_congr_left fun b _ => rfl
/-- a list of names that was built, sorted -/
theorem sort_own (base : Nat) (v : Value) (L : List ByteArray) (l : AL) (hp : (L.map fun b => b.data.toList).Perm (l.map fun p => p.1.data.toList)) (w : World) (h : OwnS base v L w) (hL : L.length ≤ 10000) :
    Calls Tryz.prog 56 #[v] w fun e w' => e = .returned (.tuple #[]) ∧ NamesAt w' v (namesT l) ∧ Below base w w' := by
  have hperm := names_perm hp
  have hlen : (namesT l).length = L.length := by
    have := hp.length_eq
    rw [names_len]
    simpa using this.symm
  rcases h.2 with ⟨rfl, h0⟩ | ⟨g, cap, cur, rfl, hb, hh, hc, hm, hcs, ht⟩
  · refine (Tryz.slices_Sort_string_none none 0 w).mono ?_
    rintro e w' ⟨rfl, rfl⟩
    refine ⟨rfl, ?_, Below.refl _ _⟩
    have e0 : namesT l = [] := List.length_eq_zero_iff.1 (by omega)
    rw [e0]
    exact ⟨base, World.ownsRow_nil _ _ _ _⟩
  · have hlL : (L.map fun b => b.data.toList).length = L.length := by simp
    have hH := holds_of_block (ss := L.map fun b => b.data.toList) hh (by rw [hlL, enc_names]; simpa using ht)
    have hc2 := Tryz.slices_Sort_string g 0 cap (L.map fun b => b.data.toList) w hH (Array.getElem?_eq_some_iff.1 hh).1 (by omega)
    rw [hlL] at hc2
    refine hc2.mono ?_
    rintro e w' ⟨rfl, n, os, rfl⟩
    refine ⟨rfl, ?_, ?_⟩
    · have hs := ownsRow_sorted (w := w) (base := base) (g := g) (cap := cap) (n := n) (os := os) (ss := L.map fun b => b.data.toList) (ts := (L.map fun b => b.data.toList).mergeSort fun x y => decide (x ≤ y)) (by simp) hb hh (by rw [hlL]; exact hc) hm hcs
      rw [hperm, hlL] at hs
      exact NamesAt.of_own hs
    · exact (Below.refl base w).grown (grownBy_sorted _) (Nat.le_of_lt (Nat.lt_of_le_of_lt hb (Array.getElem?_eq_some_iff.1 hh).1)) (fun k hk => by injection hk with hk; subst hk; exact hb)
theorem It.oth {w w' : World} {b r : Nat} {L : List (Value × Value)} {S : List Nat} (h : It w b r L S) (ho : OthS w w') : It w' b r L S := by
  obtain ⟨c0, h1, h2⟩ := h.it
  exact ⟨ho b _ h.map (fun _ _ e => by cases e), ⟨c0, ho r _ h1 (fun _ _ e => by cases e), h2⟩, h.ne, h.nd, h.lt⟩

set_option maxRecDepth 100000 in
set_option maxHeartbeats 3200000 in
theorem rsorted_any (w : World) (B : Nat) (s : TS) (i t mn kn : Nat) (nb eb : Nat → Nat) (ch : Int) (vb vo vc : Nat) (h : RL w B s t mn kn nb eb ch vb vo vc) (hi : i < s.nds.length) (N : Nat) (hw : WF s N) (hN : N ≤ 3000) :
    Calls Tryz.prog 34 #[ptr (nb i)] w fun e w' => ∃ v, e = .returned v ∧ NamesAt w' v (namesT (s.en i)) ∧ Below w.heap.size w w' := by
  have c7 := (h.tc.node i hi).cells.2.2.2.2.2.2.2.1
  cases hd : dirK (s.nd i) with
  | false =>
    have he : s.en i = [] := Classical.byContradiction fun hne => by
      have := hw.dir i hne
      rw [hd] at this
      cases this
    have hev : evV (s.nd i) (eb i) = .map none := by unfold evV; rw [hd]; rfl
    rw [hev] at c7
    have hrg : (Instr.range 53 (.map none)).run Tryz.prog w = .ok (.pointer (some ⟨w.heap.size, 0, none⟩)) (w.alloc (.mapIter none 0 #[] 0)) := by simp [Instr.range, run_underlying rmapE]
    obtain ⟨r, hr⟩ : ∃ r, r = w.heap.size := ⟨_, rfl⟩
    obtain ⟨W1, hW1⟩ : ∃ z, z = w.alloc (.mapIter none 0 #[] 0) := ⟨_, rfl⟩
    have hit : W1.heap[r]? = some (.mapIter none 0 #[] 0) := by rw [hW1, hr]; exact (Go.MapKept.heap_alloc w _).1
    have HB1 : Hid (Below w.heap.size w W1) := Lib.hid (by rw [hW1]; exact (Below.refl _ _).alloc (Nat.le_refl _) _)
    have hnx : ∀ ty, (Instr.next (.pointer (some ⟨r, 0, none⟩)) false ty).run Tryz.prog W1 = .ok (.tuple #[.bool false]) W1 := fun ty => by
      simp [Instr.next, getObj, Sem.run, hit]
    have HSO := Lib.hid (sort_own w.heap.size (.slice none 0 0) [] [] (.refl _) W1 (OwnS.nil _ _) (by decide))
    rw [← hr, ← hW1] at hrg
    rw [he]
    clear hr hW1 hit h hw he hd hev
    go_enter Tryz.func34, Tryz.ntmps34
    go_wp2_with fail
    go_loopw [3] (fun s3 wr => s3 = .slice none 0 0 ∧ wr = W1) (fun _ _ => 0)
    case atStart => exact ⟨rfl, rfl⟩
    case round =>
      obtain ⟨rfl, hwr⟩ := hrel
      subst hwr
      go_wp2_with fail
      refine HSO.out.mono ?_
      rintro e w2 ⟨rfl, hn2, hb2⟩
      have HN2 := Lib.hid hn2
      have HB2 : Hid (Below w.heap.size w w2) := Lib.hid (HB1.out.trans hb2)
      clear hn2 hb2
      go_wp2_with fail
      go_ret
      exact ⟨_, rfl, HN2.out, HB2.out⟩
  | true =>
    have hev : evV (s.nd i) (eb i) = .map (some (eb i)) := by unfold evV; rw [hd]; rfl
    rw [hev] at c7
    have hm := h.tc.ents i hi hd
    have HE : Hid ((s.en i).length ≤ 3000) := Lib.hid (Nat.le_trans (hw.ent i) hN)
    obtain ⟨hrg, hit⟩ := range_m (P := Tryz.prog) rmapE hm
    have HL : Hid (∀ j (hj : j < (sL (entL nb (s.en i))).length), ∃ hj2 : j < (s.en i).length, (sL (entL nb (s.en i)))[j].1 = .string (s.en i)[j].1) := Lib.hid (fun j hj => by
      have hj2 : j < (s.en i).length := by simpa [entL] using hj
      exact ⟨hj2, by simp [entL]⟩)
    have HLL : Hid ((sL (entL nb (s.en i))).length = (s.en i).length) := Lib.hid (by simp [entL])
    obtain ⟨L, hL⟩ : ∃ L, L = sL (entL nb (s.en i)) := ⟨_, rfl⟩
    rw [← hL] at hrg hit HL HLL
    obtain ⟨l, hl⟩ : ∃ l, l = s.en i := ⟨_, rfl⟩
    have HLl : Hid (∀ j (hj : j < L.length), ∃ hj2 : j < l.length, L[j].1 = .string l[j].1) := Lib.hid (by rw [hl]; exact HL.out)
    rw [← hl] at HE HLL ⊢
    clear hL hl HL hm hd hev h hw
    obtain ⟨eb', heb⟩ : ∃ z, z = eb i := ⟨_, rfl⟩
    rw [← heb] at hrg hit c7
    clear heb
    obtain ⟨r, hr⟩ : ∃ r, r = w.heap.size := ⟨_, rfl⟩
    obtain ⟨W1, hW1⟩ : ∃ z, z = w.alloc (.mapIter (some eb') L.length #[] L.length) := ⟨_, rfl⟩
    rw [← hr, ← hW1] at hit hrg
    have HI1 := Lib.hid hit
    have HB1 : Hid (Below r w W1) := Lib.hid (by rw [hW1, hr]; exact (Below.refl _ _).alloc (Nat.le_refl _) _)
    have HR := Lib.hid hr
    clear hr hW1 hit
    go_enter Tryz.func34, Tryz.ntmps34
    go_wp2_with fail
    go_loopw [3] (fun s3 wr => ∃ (S : List Nat), Hid (OwnS r s3 (nmsAt l S) wr) ∧ Hid (It wr eb' r L S) ∧ Hid (Below r w wr)) (fun _ wr => L.length - seenN wr r)
    case atStart => exact ⟨[], Lib.hid (OwnS.nil _ _), HI1, HB1⟩
    case round =>
      obtain ⟨S, HO, HI, HB⟩ := hrel
      have hfew : (nmsAt l S).length ≤ 3000 := by
        have h1 := HI.out.few
        rw [HLL.out] at h1
        have h2 := HE.out
        unfold nmsAt
        rw [List.length_map]
        omega
      rcases next_m (P := Tryz.prog) HI.out 0 with ⟨hp, hn0⟩ | ⟨j, hj, hnS, w', hn0, hit', hbr, hsz, hok, hen⟩
      · have hnx : ∀ ty, (Instr.next (.pointer (some ⟨r, 0, none⟩)) false ty).run Tryz.prog wr = .ok (.tuple #[.bool false]) wr := fun ty => hn0
        have HSO := Lib.hid (sort_own r u3 (nmsAt l S) l (nmsAt_perm l S (by rw [← HLL.out]; exact hp)) wr HO.out (by omega))
        clear hp hn0
        go_wp2_with fail
        refine HSO.out.mono ?_
        rintro e w2 ⟨rfl, hn2, hb2⟩
        have HN2 := Lib.hid hn2
        have HB2 : Hid (Below w.heap.size w w2) := Lib.hid (by rw [← HR.out]; exact HB.out.trans hb2)
        clear hn2 hb2
        go_wp2_with fail
        go_ret
        exact ⟨_, rfl, HN2.out, HB2.out⟩
      · obtain ⟨hj2, hkey⟩ := HLl.out j hj
        have HSN : Hid (nmsAt l (S ++ [j]) = nmsAt l S ++ [l[j].1]) := Lib.hid (nmsAt_snoc l S j hj2)
        rw [hkey] at hn0 hen
        generalize l[j].1 = nm at *
        generalize L[j].2 = pv at *
        have hnx : ∀ ty, (Instr.next (.pointer (some ⟨r, 0, none⟩)) false ty).run Tryz.prog wr = .ok (.tuple #[.bool true, .string nm, pv]) w' := fun ty => hn0
        obtain ⟨c0, hri, _⟩ := HI.out.it
        have HO2 := Lib.hid (HO.out.stay hbr hsz hok (fun cs T fr e => by rw [hri] at e; cases e))
        have HI2 := Lib.hid hit'
        have HB2 : Hid (Below r w w') := Lib.hid (HB.out.trans hbr)
        have HSE : Hid (seenN wr r = S.length) := Lib.hid HI.out.seen
        have hrs : r ≤ w'.heap.size := by
          obtain ⟨c1, h1, _⟩ := hit'.it
          have := (Array.getElem?_eq_some_iff.1 h1).1
          omega
        have hnl : (nmsAt l S).length ≤ 10000000 := by omega
        have hfw := hit'.few
        rw [List.length_append] at hfw
        have HFW : Hid (S.length + 1 ≤ L.length) := Lib.hid (by simpa using hfw)
        clear hn0 hit' hbr hsz hok hkey hnS hri hfw HO HI HB
        go_wp2_with (at_builtin; refine app_str (w := w') rfl _ _ (by rfl) r u3 (nmsAt l S) HO2.out (by rfl) nm (by rfl) hnl hrs ?_; intro A4 c4 w4 ho4 hb4 hot; have HO4 := Lib.hid ho4; have HB4 : Hid (Below r w w4) := Lib.hid (HB2.out.trans hb4); have HI4 := Lib.hid (HI2.out.oth hot); clear ho4 hb4 hot)
        exact ⟨⟨S ++ [j], by rw [HSN.out]; exact HO4, HI4, HB4⟩, by rw [HI4.out.seen, HSE.out, List.length_append]; have := HFW.out; simp; omega⟩
end Go.Proofs.YtclhdppepopgeaaGreatDoor
