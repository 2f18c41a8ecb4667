/- The tree's lists: the names of a node in order. -/
import Derived.Test.YtclhdppepopgeaaGreatDoorTrMem
import Derived.Test.YtclhdppepopgeaaGreatDoorShelfB
namespace Go.Proofs.YtclhdppepopgeaaGreatDoor
open Go.RowKit

/-- v is a slice that reads as the texts l -/
def SL (w : World) (v : Value) (l : List ByteArray) : Prop :=
  ∃ A c, v = .slice A l.length c ∧ l.length ≤ c ∧ (0 < l.length → ∃ b off, A = some ⟨b, off, none⟩ ∧ b < w.heap.size ∧ ∀ j (h : j < l.length), w.cell? ⟨b, off + j, none⟩ = some (.string l[j]))
theorem SL.keep {w w' : World} {v : Value} {l : List ByteArray} (h : SL w v l) (hb : Below w.heap.size w w') : SL w' v l := by
  obtain ⟨A, c, rfl, hc, h⟩ := h
  refine ⟨A, c, rfl, hc, fun hn => ?_⟩
  obtain ⟨b, off, rfl, hlt, hcell⟩ := h hn
  exact ⟨b, off, rfl, Nat.lt_of_lt_of_le hlt hb.size, fun j hj => (hb.cell (p := ⟨b, off + j, none⟩) hlt).trans (hcell j hj)⟩
theorem SL.of_own {w : World} {base : Nat} {e : TypeId} {v : Value} {n : Nat} {l : List ByteArray} (h : w.ownsRow base e 1 v n (l.map Value.string)) : SL w v l := by
  have hn : l.length = n := by have := h.1; simpa using this
  subst hn
  rcases h.2 with ⟨rfl, h0⟩ | ⟨g, cap, cur, rfl, _, hh, hcap, _, _, ht⟩
  · exact ⟨none, 0, by rw [h0], by omega, fun hp => by omega⟩
  · refine ⟨_, cap, rfl, hcap, fun hp => ⟨g, 0, rfl, (h.lt g rfl).2, fun j hj => ?_⟩⟩
    have := h.cells (g := g) rfl j (.string l[j]) (by simp [hj])
    rwa [WideShapes.add_plain] at this

/-- a list of names that nobody else has -/
def NamesAt (w : World) (v : Value) (l : List ByteArray) : Prop := ∃ base, w.ownsRow base 9 1 v l.length (l.map Value.string)
theorem NamesAt.sl {w : World} {v : Value} {l : List ByteArray} (h : NamesAt w v l) : SL w v l := by
  obtain ⟨base, h⟩ := h
  exact SL.of_own h
theorem NamesAt.of_own {w : World} {v : Value} {l : List ByteArray} {base n : Nat} (h : w.ownsRow base 9 1 v n (l.map Value.string)) : NamesAt w v l := by
  have hn : l.length = n := by have := h.1; simpa using this
  subst hn
  exact ⟨base, h⟩
/-- .. stays where its block stays -/
theorem NamesAt.stay {w w' : World} {v : Value} {l : List ByteArray} (h : NamesAt w v l) (hk : ∀ (b : Nat) (cs : Array Value), w.heap[b]? = some (Obj.cells cs 9 (0, 0)) → w'.heap[b]? = some (Obj.cells cs 9 (0, 0))) : NamesAt w' v l := by
  obtain ⟨base, h1, h2⟩ := h
  refine ⟨base, h1, ?_⟩
  rcases h2 with h0 | ⟨g, cap, cur, h3, h4, h5, h6⟩
  · exact .inl h0
  · exact .inr ⟨g, cap, cur, h3, h4, hk g cur h5, h6⟩

/-- a value that is not looked at -/
def noR (_ : Value) : Option (DataW Unit × List MemPlace) := some (.nil, [])
theorem keyOf_s (k : ByteArray) (hk : k.size ≤ maxLen) : keyOf Tryz.prog 9 (.string k) = some (.string k.data.toList) := by
  simp [keyOf, mapKey, hk]
/-- the names of a map whose entries came one by one -/
theorem own_of_map {w : World} {b : Nat} {L : List (ByteArray × Value)} (h : MapAt w b (sL L)) (hd : (L.map (·.1)).Nodup) (hs : ∀ p ∈ L, p.1.size ≤ maxLen) (hl : L.length ≤ maxLen) :
    ∃ D, w.ownsMap Tryz.prog 9 noR b L.length D ∧ Maps.size D = L.length ∧ (strKeys D).Perm (L.map fun p => p.1.data.toList) := by
  have key : ∀ (i : Nat) (L : List (ByteArray × Value)), (∀ p ∈ L, p.1.size ≤ maxLen) → (mEs i (sL L)).map (WideElems.rg Tryz.prog 9 noR) = L.map fun p => (Lit.string p.1.data.toList, DataW.nil) := fun i L hs => by
    induction L generalizing i with
    | nil => rfl
    | cons p L ih =>
      have ih := ih (i + 1) (fun q hq => hs q (List.mem_cons_of_mem _ hq))
      have e1 : mEs i (sL (p :: L)) = ⟨.string p.1, p.2, i⟩ :: mEs (i + 1) (sL L) := rfl
      have e2 : WideElems.rg Tryz.prog 9 noR ⟨.string p.1, p.2, i⟩ = (Lit.string p.1.data.toList, DataW.nil) := WideElems.rg_of (WideElems.rd_mk (yv := (.nil, [])) (keyOf_s p.1 (hs p List.mem_cons_self)) rfl)
      rw [e1, List.map_cons, List.map_cons, ih, e2]
  have hsz : (mEs 0 (sL L)).length = L.length := by rw [mEs_len]; simp
  have hkeys : ∀ (i : Nat) (L : List (ByteArray × Value)), (mEs i (sL L)).map (·.key) = L.map fun p => Value.string p.1 := fun i L => by
    induction L generalizing i with
    | nil => rfl
    | cons p L ih =>
      have ih := ih (i + 1)
      have e1 : mEs i (sL (p :: L)) = ⟨.string p.1, p.2, i⟩ :: mEs (i + 1) (sL L) := rfl
      rw [e1, List.map_cons, List.map_cons, ih]
  refine ⟨_, ⟨_, _, h, ⟨by simpa [hsz] using hl, ⟨fun x hx => ?_, mEs_nodup _, ?_⟩, fun x hx => ?_⟩, by simp [hsz], rfl⟩, ?_, ?_⟩
  · obtain ⟨j, hj, rfl⟩ := mEs_mem (by simpa using hx)
    simpa using hj
  · rw [List.toList_toArray, hkeys]
    have e : (L.map fun p => Value.string p.1) = (L.map (·.1)).map Value.string := by rw [List.map_map]; rfl
    rw [e]
    exact List.Pairwise.map _ (fun a c hac he => hac (by injection he)) hd
  · obtain ⟨j, hj, rfl⟩ := mEs_mem (by simpa using hx)
    have hj2 : j < L.length := by simpa using hj
    have e : (sL L)[j] = (.string L[j].1, L[j].2) := by simp
    refine ⟨_, WideElems.rd_mk (kl := .string L[j].1.data.toList) (yv := (.nil, [])) ?_ rfl⟩
    rw [e]
    exact keyOf_s _ (hs _ (List.getElem_mem hj2))
  · show (List.foldr DataW.insert [] _).length = _
    rw [length_sorted, List.toList_toArray, key 0 L hs]
    simp
  · show ((List.foldr DataW.insert [] _).map fun p => strOf p.1).Perm _
    rw [List.toList_toArray, key 0 L hs]
    refine ((WideShapes.sorted_perm _).map _).trans ?_
    rw [List.map_map]
    exact .refl _
theorem names_perm {l : AL} {ss : List (List UInt8)} (h : ss.Perm (l.map fun p => p.1.data.toList)) : (ss.mergeSort (fun x y => decide (x ≤ y))).map encStr = (namesT l).map Value.string := by
  have e : ss.mergeSort (fun x y => decide (x ≤ y)) = (l.map fun p => p.1.data.toList).mergeSort leB := mergeSort_of_perm h
  rw [e]
  unfold namesT
  rw [List.map_map]
  rfl

set_option maxRecDepth 100000 in
set_option maxHeartbeats 3200000 in
theorem sorted_any (s : TS) (i : Nat) (t mn : Nat) (nb eb : Nat → Nat) (ch : Int) (vb vo vc : Nat) (w : World) (h : TM w s t mn nb eb ch vb vo vc) (hi : i < s.nds.length) (N : Nat) (hw : WF s N) (hN : N ≤ 3000) :
    Calls Tryz.prog 44 #[ptr (nb i)] w fun e w' => ∃ v, e = .returned v ∧ NamesAt w' v (namesT (s.en i)) ∧ Below w.heap.size w w' := by
  have hn := h.node i hi
  obtain ⟨_, _, _, _, _, _, _, _, c11⟩ := hn.cells
  cases hd : dirK (s.nd i) with
  | false =>
    have he : s.en i = [] := Classical.byContradiction fun hne => by
      have := hw.dir i hne
      rw [hd] at this
      cases this
    unfold evV at c11
    rw [hd] at c11
    replace c11 : w.cell? ⟨nb i, 11, none⟩ = some (.map none) := c11
    have HK := Lib.hid (callsIn_wide.1 (Tryz.maps_Keys_61 none w))
    have HS := Lib.hid (callsIn_wide.1 (Tryz.slices_Sorted_keys_nil_60_61 w))
    have HB0 : Hid (Below w.heap.size w (w.alloc (.cells #[.map none] 68))) := Lib.hid ((Below.refl _ w).alloc (Nat.le_refl _) _)
    rw [he]
    clear hn he hd h hw
    go_enter Tryz.func44, Tryz.ntmps44
    go_wp2_with fail
    refine HK.out.mono ?_
    rintro e w1 ⟨rfl, rfl⟩
    go_wp2_with fail
    refine HS.out.mono ?_
    rintro e w2 ⟨v, ss, rfl, hss, hrow, hnil, hb2⟩
    go_wp2_with fail
    go_ret
    exact ⟨v, rfl, NamesAt.of_own (l := namesT []) (by rw [← names_perm (l := []) (ss := ss) (by rw [hss]; exact .refl _)]; rw [hss] at hrow ⊢; exact hrow), HB0.out.trans (hb2.mono HB0.out.size)⟩
  | true =>
    unfold evV at c11
    rw [hd] at c11
    replace c11 : w.cell? ⟨nb i, 11, none⟩ = some (.map (some (eb i))) := c11
    have hen : (entL nb (s.en i)).length = (s.en i).length := by simp [entL]
    have hmap : (entL nb (s.en i)).map (·.1) = (s.en i).map (·.1) := by unfold entL; rw [List.map_map]; rfl
    obtain ⟨D, hD, hsz, hpm⟩ := own_of_map (h.ents i hi hd) (by rw [hmap]; exact hw.dist i) (fun p hp => by
      obtain ⟨q, hq, rfl⟩ := List.mem_map.1 hp
      have := (hw.val i q hq).2.1
      show q.1.size ≤ maxLen
      exact Nat.le_trans this (by decide)) (by rw [hen]; exact Nat.le_trans (hw.ent i) (Nat.le_trans hN (by decide)))
    have hle := hw.ent i
    have hsz2 : Maps.size D ≤ 3000 := by rw [hsz, hen]; omega
    have HK := Lib.hid (callsIn_wide.1 (Tryz.maps_Keys_61 (some (eb i)) w))
    have HS := Lib.hid (callsIn_wide.1 (Tryz.slices_Sorted_keys_60_61 (eb i) _ D noR w hD (Nat.le_trans hsz2 (by decide)) (by omega)))
    have HB0 : Hid (Below w.heap.size w (w.alloc (.cells #[.map (some (eb i))] 68))) := Lib.hid ((Below.refl _ w).alloc (Nat.le_refl _) _)
    have HP : Hid ((strKeys D).Perm ((s.en i).map fun p => p.1.data.toList)) := Lib.hid (by
      refine hpm.trans ?_
      unfold entL
      rw [List.map_map]
      exact .refl _)
    clear hn hd h hw hD hsz hpm hen hmap hle hsz2
    generalize eb i = eb' at *
    go_enter Tryz.func44, Tryz.ntmps44
    go_wp2_with fail
    refine HK.out.mono ?_
    rintro e w1 ⟨rfl, rfl⟩
    go_wp2_with fail
    refine HS.out.mono ?_
    rintro e w2 ⟨v, ss, rfl, hss, hrow, hnil, hb2⟩
    go_wp2_with fail
    go_ret
    have hp2 := names_perm (hss.trans HP.out)
    rw [hp2] at hrow
    exact ⟨v, rfl, NamesAt.of_own hrow, HB0.out.trans (hb2.mono HB0.out.size)⟩
end Go.Proofs.YtclhdppepopgeaaGreatDoor
