/- The tree's lists, the reference: what a dump writes, in memory. -/
import Derived.Test.YtclhdppepopgeaaGreatDoorTfSort
import Derived.Test.YtclhdppepopgeaaGreatDoorTrDmp
namespace Go.Proofs.YtclhdppepopgeaaGreatDoor
open Go.RowKit

theorem KeepD.names' {d sm : Nat} {w w' : World} {v : Value} {l : List ByteArray} (h : KeepD d sm w w') {cs0 : Array Value} {T : TypeId} (hT : T ≠ 9) (hd : w.heap[d]? = some (.cells cs0 T (0, 0))) {es : Array MapEntry} {c : Nat} (hs : w.heap[sm]? = some (.map es c)) (hn : NamesAt w v l) : NamesAt w' v l :=
  hn.stay fun b cs hb => h.2 b _ hb (fun cs2 fr e => by injection e with _ e2; cases e2) (fun e => by
    subst e
    rw [hd] at hb
    injection hb with hb
    injection hb with _ hb
    exact hT hb) (fun e => by
    subst e
    rw [hs] at hb
    injection hb with hb
    cases hb)
/-- the closure -/
abbrev addV (bs bo ba : Nat) : Value := .func (.func 33) #[] #[ptr bs, ptr bo, ptr ba]
/-- the boxes of a dump: the nodes that it has seen, its list, itself -/
structure RA (w : World) (B bs bo ba sm : Nat) (nb : Nat → Nat) (n : Nat) (st : DS) : Prop where
  sbox : w.heap[bs]? = some (.cells #[.map (some sm)] 92 (0, 0))
  obox : ∃ v, w.heap[bo]? = some (.cells #[v] 22 (0, 0)) ∧ OwnF B v st.1 w
  abox : w.heap[ba]? = some (.cells #[addV bs bo ba] 93 (0, 0))
  seen : MapAt w sm (pL (st.2.map fun p => (nb p.1, Value.string p.2)))
  b1 : B ≤ bs
  b2 : B ≤ bo
  b3 : B ≤ ba
  b4 : B ≤ sm
  sl : ∀ p ∈ st.2, p.1 < n
theorem RA.keep {w w' : World} {B bs bo ba sm n : Nat} {nb : Nat → Nat} {st : DS} (h : RA w B bs bo ba sm nb n st) (hb : Below w.heap.size w w') : RA w' B bs bo ba sm nb n st := by
  obtain ⟨h0, ⟨v, h1, h2⟩, h3, h4, h5, h6, h7, h8, h9⟩ := h
  exact ⟨(hb.block bs (Array.getElem?_eq_some_iff.1 h0).1).trans h0, ⟨v, (hb.block bo (Array.getElem?_eq_some_iff.1 h1).1).trans h1, h2.keep hb⟩, (hb.block ba (Array.getElem?_eq_some_iff.1 h3).1).trans h3, h4.keep hb, h5, h6, h7, h8, h9⟩
theorem rmapD : Tryz.prog.underlying 92 = some (.map 45 9) := by kernel_rfl
theorem rundP : Tryz.prog.underlying 45 = some (.pointer 55) := by kernel_rfl
theorem rinfoN0 : (Tryz.prog.info? 55).map (fun i => i.size) = some 13 := by kernel_rfl
theorem rinfoN : ∃ j, Tryz.prog.info? 55 = some j ∧ j.size ≠ 0 := by
  have h := rinfoN0
  cases hj : Tryz.prog.info? 55 with
  | none => rw [hj] at h; cases h
  | some j =>
    rw [hj] at h
    have h2 : j.size = 13 := by injection h
    exact ⟨j, rfl, by rw [h2]; decide⟩
/-- has the dump seen a node? -/
theorem RA.look {w : World} {B bs bo ba sm : Nat} {nb : Nat → Nat} {n : Nat} {st : DS} (h : RA w B bs bo ba sm nb n st) (hc : ∀ j, j < n → Cellar w (nb j)) (hinj : ∀ i j, i < n → j < n → nb i = nb j → i = j) (i : Nat) (hi : i < n) :
    (Instr.lookup 92 (.map (some sm)) (ptr (nb i)) true).run Tryz.prog w = .ok (.tuple #[.string ((seenD st.2 i).getD ByteArray.empty), .bool (seenD st.2 i).isSome]) w := by
  obtain ⟨j, hj1, hj2⟩ := rinfoN
  rw [lookup_p rmapD rundP hj1 hj2 zeroS h.seen (hc i hi) (fun p hp => by
    obtain ⟨q, hq, rfl⟩ := List.mem_map.1 hp
    exact hc _ (h.sl q hq)), getP_seen nb n hinj st.2 h.sl i hi]
  cases seenD st.2 i <;> rfl
theorem RA.mark {w : World} {B bs bo ba sm : Nat} {nb : Nat → Nat} {n : Nat} {st : DS} (h : RA w B bs bo ba sm nb n st) (hc : ∀ j, j < n → Cellar w (nb j)) (hinj : ∀ i j, i < n → j < n → nb i = nb j → i = j) (i : Nat) (hi : i < n) (hs : seenD st.2 i = none) (path : ByteArray) :
    ∃ w', (Instr.mapUpdate 92 (.map (some sm)) (ptr (nb i)) (.string path)).run Tryz.prog w = .ok () w' ∧ RA w' B bs bo ba sm nb n (st.1, st.2 ++ [(i, path)]) ∧ Below B w w' ∧ KeepD bo sm w w' := by
  obtain ⟨j, hj1, hj2⟩ := rinfoN
  obtain ⟨w', h1, h2⟩ := put_p (P := Tryz.prog) rmapD rundP hj1 hj2 h.seen (hc i hi) (fun p hp => by
    obtain ⟨q, hq, rfl⟩ := List.mem_map.1 hp
    exact hc _ (h.sl q hq)) (.string path) (by rw [getP_seen nb n hinj st.2 h.sl i hi, hs]; rfl)
  have hne : ∀ {b : Nat} {cs : Array Value} {T : TypeId}, w.heap[b]? = some (.cells cs T (0, 0)) → b ≠ sm := fun hb => map_ne h.seen ⟨_, _, hb⟩
  refine ⟨w', h1, ⟨?_, ?_, ?_, ?_, h.b1, h.b2, h.b3, h.b4, fun p hp => ?_⟩, ?_, ?_⟩
  · rw [h2]; exact (hset_other (hne h.sbox)).trans h.sbox
  · obtain ⟨v, h3, h4⟩ := h.obox
    rw [h2]
    refine ⟨v, (hset_other (hne h3)).trans h3, ⟨h4.1, ?_⟩⟩
    rcases h4.2 with h0 | ⟨g, cap, cur, h5, h6, h7, h8⟩
    · exact .inl h0
    · exact .inr ⟨g, cap, cur, h5, h6, (hset_other (hne h7)).trans h7, h8⟩
  · rw [h2]; exact (hset_other (hne h.abox)).trans h.abox
  · rw [h2]
    have h5 := h.seen.put (L' := pL (st.2.map (fun p => (nb p.1, Value.string p.2)) ++ [(nb i, Value.string path)]))
    show MapAt _ sm (pL ((st.2 ++ [(i, path)]).map _))
    rw [List.map_append]
    exact h5
  · rcases List.mem_append.1 hp with hp | hp
    · exact h.sl p hp
    · simp at hp; subst hp; exact hi
  · rw [h2]; exact below_hset (Below.refl _ _) h.b4 _
  · rw [h2]
    exact ⟨by rw [hset_size]; exact Nat.le_refl _, fun b o hb _ _ h4 => (hset_other h4).trans hb⟩
/-- an entry more in the list -/
theorem RA.more {w w4 : World} {B bs bo ba sm : Nat} {nb : Nat → Nat} {n : Nat} {st : DS} {v : Value} (h : RA w B bs bo ba sm nb n st) (hv : w.heap[bo]? = some (.cells #[v] 22 (0, 0))) (y : FE) (A : Option Addr) (c : Nat)
    (ho : OwnF B (.slice A (st.1.length + 1) c) (st.1 ++ [y]) w4) (hb : Below B w w4) (hot : OthF w w4) :
    w4.cell? ⟨bo, 0, none⟩ = some v ∧ w4.frozen? ⟨bo, 0, none⟩ = false ∧ RA (w4.setCell ⟨bo, 0, none⟩ (.slice A (st.1.length + 1) c)) B bs bo ba sm nb n (st.1 ++ [y], st.2) ∧ Below B w (w4.setCell ⟨bo, 0, none⟩ (.slice A (st.1.length + 1) c)) ∧ KeepD bo sm w (w4.setCell ⟨bo, 0, none⟩ (.slice A (st.1.length + 1) c)) := by
  have hd4 := hot bo _ hv (fun cs fr e => by injection e with _ e2; cases e2)
  have hs4 := hot sm _ h.seen (fun cs fr e => by cases e)
  have hsb4 := hot bs _ h.sbox (fun cs fr e => by injection e with _ e2; cases e2)
  have hab4 := hot ba _ h.abox (fun cs fr e => by injection e with _ e2; cases e2)
  have n1 : sm ≠ bo := fun e => map_ne h.seen ⟨_, _, hv⟩ e.symm
  have n2 : bs ≠ bo := fun e => by have h1 := h.sbox; rw [e, hv] at h1; injection h1 with h1; injection h1 with _ h1; cases h1
  have n3 : ba ≠ bo := fun e => by have h1 := h.abox; rw [e, hv] at h1; injection h1 with h1; injection h1 with _ h1; cases h1
  have k : ∀ b o, b ≠ bo → w4.heap[b]? = some o → (w4.setCell ⟨bo, 0, none⟩ (.slice A (st.1.length + 1) c)).heap[b]? = some o := fun b o hb ho => (heap_setCell_other w4 ⟨bo, 0, none⟩ b _ hb).trans ho
  refine ⟨by simp [World.cell?, hd4], by simp [World.frozen?, hd4], ⟨k _ _ n2 hsb4, ⟨_, heap_setCell_same w4 bo 0 _ _ (.slice A (st.1.length + 1) c) hd4, ?_⟩, k _ _ n3 hab4, k _ _ n1 hs4, h.b1, h.b2, h.b3, h.b4, h.sl⟩, hb.setCell h.b2 _, ?_, ?_⟩
  · have hl : (st.1 ++ [y]).length = st.1.length + 1 := by simp
    have ho' : w4.ownsRow B 33 8 (.slice A (st.1.length + 1) c) (st.1 ++ [y]).length (rowsF (st.1 ++ [y])) := ho
    exact World.ownsRow.kept (row := some bo) ho' (grown_set w4 bo 0 _) (.inr (fun e => by
      obtain ⟨cur, hc⟩ := own_block_is ho' bo e
      rw [hd4] at hc
      injection hc with hc
      injection hc with _ hc
      cases hc))
  · have := hb.size; simp [World.setCell]; exact this
  · exact fun b o hb1 ho1 h3 h4 => (heap_setCell_other w4 ⟨bo, 0, none⟩ b _ h3).trans (hot b o hb1 ho1)
/-- an entry by its name -/
theorem RL.byName {w : World} {B : Nat} {s : TS} {t mn kn : Nat} {nb eb : Nat → Nat} {ch : Int} {vb vo vc : Nat} (h : RL w B s t mn kn nb eb ch vb vo vc) (i : Nat) (hi : i < s.nds.length) (hd : dirK (s.nd i) = true) (k : ByteArray) :
    (Instr.lookup 53 (.map (some (eb i))) (.string k) false).run Tryz.prog w = .ok (match getA (s.en i) k with | some j => ptr (nb j) | none => .pointer none) w := by
  rw [lookup_s rmapE undS rzeroP (h.tc.ents i hi hd), getS_ent]
  cases getA (s.en i) k <;> rfl
end Go.Proofs.YtclhdppepopgeaaGreatDoor
