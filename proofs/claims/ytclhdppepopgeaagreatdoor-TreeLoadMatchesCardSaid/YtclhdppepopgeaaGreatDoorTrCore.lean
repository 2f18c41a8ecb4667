/- The tree's lists: a tree in memory without its box, for the program and for the reference. -/
import Derived.Test.YtclhdppepopgeaaGreatDoorTrMem
import Derived.Test.YtclhdppepopgeaaGreatDoorTrFx
import Derived.Test.YtclhdppepopgeaaGreatDoorTrKn
namespace Go.Proofs.YtclhdppepopgeaaGreatDoor
open Go.RowKit

/-- how a node lies in memory: its block alone says it, and is a block of cells -/
structure NAok (NA : World → Nat → Nat → ND → Value → Prop) : Prop where
  stay : ∀ {w w' : World} {b i : Nat} {d : ND} {ev : Value}, NA w b i d ev → w'.heap[b]? = w.heap[b]? → NA w' b i d ev
  cells : ∀ {w : World} {b i : Nat} {d : ND} {ev : Value}, NA w b i d ev → Cellar w b
/-- a tree in memory, without its box -/
structure TC (NA : World → Nat → Nat → ND → Value → Prop) (w : World) (B : Nat) (s : TS) (mn kn : Nat) (nb eb : Nat → Nat) : Prop where
  nodes : MapAt w mn (iL ((List.range s.nds.length).map fun i => (((i + 1 : Nat) : Int), ptr (nb i))))
  node : ∀ i, i < s.nds.length → NA w (nb i) i (s.nd i) (evV (s.nd i) (eb i))
  ents : ∀ i, i < s.nds.length → dirK (s.nd i) = true → MapAt w (eb i) (sL (entL nb (s.en i)))
  known : MapAt w kn (sL (entL nb s.known))
  bm : B ≤ mn
  bk : B ≤ kn
  bn : ∀ i, i < s.nds.length → B ≤ nb i
  be : ∀ i, i < s.nds.length → dirK (s.nd i) = true → B ≤ eb i
  km : kn ≠ mn
  em : ∀ i, i < s.nds.length → dirK (s.nd i) = true → eb i ≠ mn ∧ eb i ≠ kn
  ee : ∀ i j, i < s.nds.length → j < s.nds.length → dirK (s.nd i) = true → dirK (s.nd j) = true → eb i = eb j → i = j
  inj : ∀ i j, i < s.nds.length → j < s.nds.length → nb i = nb j → i = j

theorem Cellar.lt {w : World} {b : Nat} (h : Cellar w b) : b < w.heap.size := by
  obtain ⟨_, _, h⟩ := h
  exact (Array.getElem?_eq_some_iff.1 h).1
theorem map_ne {w : World} {a b : Nat} {L : List (Value × Value)} (h : MapAt w a L) (hb : Cellar w b) : b ≠ a := fun e => by
  obtain ⟨_, _, hb⟩ := hb
  unfold MapAt at h
  rw [e, h] at hb
  injection hb with hb
  cases hb
theorem entL_app (nb : Nat → Nat) (l : AL) (k : ByteArray) (j : Nat) : entL nb (l ++ [(k, j)]) = entL nb l ++ [(k, ptr (nb j))] := by simp [entL]
theorem entL_congr {nb nb' : Nat → Nat} (l : AL) (h : ∀ p ∈ l, nb' p.2 = nb p.2) : entL nb' l = entL nb l := by
  unfold entL
  exact List.map_congr_left fun p hp => by rw [h p hp]
def upd (f : Nat → Nat) (n x : Nat) : Nat → Nat := fun i => if i = n then x else f i
theorem upd_same (f : Nat → Nat) (n x : Nat) : upd f n x n = x := if_pos rfl
theorem upd_other (f : Nat → Nat) {n i : Nat} (x : Nat) (h : i < n) : upd f n x i = f i := if_neg (by omega)

section
variable {NA : World → Nat → Nat → ND → Value → Prop}

theorem TC.keep (ok : NAok NA) {w w' : World} {B : Nat} {s : TS} {mn kn : Nat} {nb eb : Nat → Nat} (h : TC NA w B s mn kn nb eb) (hb : Below w.heap.size w w') : TC NA w' B s mn kn nb eb :=
  ⟨h.nodes.keep hb, fun i hi => ok.stay (h.node i hi) (hb.block _ (ok.cells (h.node i hi)).lt), fun i hi hd => (h.ents i hi hd).keep hb, h.known.keep hb, h.bm, h.bk, h.bn, h.be, h.km, h.em, h.ee, h.inj⟩
/-- what is changed are nodes alone, in parts that are not told, or other blocks -/
theorem TC.fx {w w' : World} {B : Nat} {s : TS} {mn kn : Nat} {nb eb : Nat → Nat} (h : TC NA w B s mn kn nb eb) {S : Nat → Prop} (hF : Fx S w w') (hm : ¬ S mn) (hk : ¬ S kn) (he : ∀ i, i < s.nds.length → dirK (s.nd i) = true → ¬ S (eb i))
    (hn : ∀ i, i < s.nds.length → NA w' (nb i) i (s.nd i) (evV (s.nd i) (eb i))) : TC NA w' B s mn kn nb eb :=
  ⟨hF.map h.nodes hm, hn, fun i hi hd => hF.map (h.ents i hi hd) (he i hi hd), hF.map h.known hk, h.bm, h.bk, h.bn, h.be, h.km, h.em, h.ee, h.inj⟩
/-- other blocks are changed -/
theorem TC.oth (ok : NAok NA) {w w' : World} {B : Nat} {s : TS} {mn kn : Nat} {nb eb : Nat → Nat} (h : TC NA w B s mn kn nb eb) {S : Nat → Prop} (hF : Fx S w w') (hm : ¬ S mn) (hk : ¬ S kn) (he : ∀ i, i < s.nds.length → dirK (s.nd i) = true → ¬ S (eb i))
    (hn : ∀ i, i < s.nds.length → ¬ S (nb i)) : TC NA w' B s mn kn nb eb :=
  h.fx hF hm hk he fun i hi => ok.stay (h.node i hi) (hF.block _ (ok.cells (h.node i hi)).lt (hn i hi))
/-- the node of one number is changed, in parts that are not told -/
theorem TC.one (ok : NAok NA) {w w' : World} {B : Nat} {s : TS} {mn kn : Nat} {nb eb : Nat → Nat} (h : TC NA w B s mn kn nb eb) (j : Nat) (hj : j < s.nds.length) (hF : Fx (fun b => b = nb j) w w')
    (hn : NA w' (nb j) j (s.nd j) (evV (s.nd j) (eb j))) : TC NA w' B s mn kn nb eb := by
  have hc := ok.cells (h.node j hj)
  refine h.fx hF (fun e => map_ne h.nodes hc e.symm) (fun e => map_ne h.known hc e.symm) (fun i hi hd e => map_ne (h.ents i hi hd) hc e.symm) (fun i hi => ?_)
  by_cases hij : i = j
  · subst hij; exact hn
  · exact ok.stay (h.node i hi) (hF.block _ (ok.cells (h.node i hi)).lt (fun e => hij (h.inj i j hi hj e)))
/-- a new node -/
theorem TC.addN (ok : NAok NA) {w w' : World} {B : Nat} {s : TS} {mn kn : Nat} {nb eb : Nat → Nat} (h : TC NA w B s mn kn nb eb) (hlen : s.ents.length = s.nds.length)
    (hv : ∀ i, ∀ p ∈ s.en i, p.2 < s.nds.length) (hkv : ∀ p ∈ s.known, p.2 < s.nds.length) (d : ND) (x e0 : Nat) {S : Nat → Prop} (hF : Fx S w w') (hk : ¬ S kn) (he : ∀ i, i < s.nds.length → dirK (s.nd i) = true → ¬ S (eb i))
    (hn : ∀ i, i < s.nds.length → ¬ S (nb i)) (hm : MapAt w' mn (iL (((List.range s.nds.length).map fun i => (((i + 1 : Nat) : Int), ptr (nb i))) ++ [(((s.nds.length + 1 : Nat) : Int), ptr x)])))
    (hx : NA w' x s.nds.length d (evV d e0)) (hxB : B ≤ x) (hxn : ∀ i, i < s.nds.length → nb i ≠ x)
    (hd : dirK d = true → MapAt w' e0 [] ∧ B ≤ e0 ∧ e0 ≠ mn ∧ e0 ≠ kn ∧ ∀ i, i < s.nds.length → dirK (s.nd i) = true → eb i ≠ e0) :
    TC NA w' B ⟨s.nds ++ [d], s.ents ++ [[]], s.known⟩ mn kn (upd nb s.nds.length x) (upd eb s.nds.length e0) := by
  have hll : (TS.mk (s.nds ++ [d]) (s.ents ++ [[]]) s.known).nds.length = s.nds.length + 1 := by simp
  have hnd : ∀ i, i < s.nds.length → TS.nd ⟨s.nds ++ [d], s.ents ++ [[]], s.known⟩ i = s.nd i := fun i hi => nd_old _ _ _ hi
  have hnn : TS.nd ⟨s.nds ++ [d], s.ents ++ [[]], s.known⟩ s.nds.length = d := nd_new _ _
  have hen : ∀ i, TS.en ⟨s.nds ++ [d], s.ents ++ [[]], s.known⟩ i = s.en i := fun i => by
    unfold TS.en
    rcases Nat.lt_trichotomy i s.ents.length with hi | hi | hi
    · rw [List.getD, List.getElem?_append_left hi]; rfl
    · rw [hi]; simp [List.getD]
    · simp only [List.getD]
      rw [List.getElem?_eq_none (by simp; omega), List.getElem?_eq_none (by omega)]
  have hen0 : s.en s.nds.length = [] := by
    unfold TS.en
    rw [List.getD, List.getElem?_eq_none (by omega)]
    rfl
  refine ⟨?_, fun i hi => ?_, fun i hi hdi => ?_, ?_, h.bm, h.bk, fun i hi => ?_, fun i hi hdi => ?_, h.km, fun i hi hdi => ?_, fun i j hi hj hdi hdj e => ?_, fun i j hi hj e => ?_⟩
  · rw [hll]
    have e : (List.range (s.nds.length + 1)).map (fun i => (((i + 1 : Nat) : Int), ptr (upd nb s.nds.length x i))) = ((List.range s.nds.length).map fun i => (((i + 1 : Nat) : Int), ptr (nb i))) ++ [(((s.nds.length + 1 : Nat) : Int), ptr x)] := by
      rw [List.range_succ, List.map_append]
      congr 1
      · exact List.map_congr_left fun i hi => by rw [upd_other _ _ (List.mem_range.1 hi)]
      · rw [List.map_cons, upd_same]; rfl
    rw [e]
    exact hm
  · rw [hll] at hi
    by_cases hi2 : i < s.nds.length
    · rw [hnd i hi2, upd_other _ _ hi2, upd_other _ _ hi2]
      exact ok.stay (h.node i hi2) (hF.block _ (ok.cells (h.node i hi2)).lt (hn i hi2))
    · obtain rfl : i = s.nds.length := by omega
      rw [hnn, upd_same, upd_same]
      exact hx
  · rw [hll] at hi
    rw [hen, entL_congr (nb := nb) (s.en i) (fun p hp => upd_other _ _ (hv i p hp))]
    by_cases hi2 : i < s.nds.length
    · rw [hnd i hi2] at hdi
      rw [upd_other _ _ hi2]
      exact hF.map (h.ents i hi2 hdi) (he i hi2 hdi)
    · obtain rfl : i = s.nds.length := by omega
      rw [hnn] at hdi
      rw [upd_same, hen0]
      exact (hd hdi).1
  · show MapAt w' kn (sL (entL _ s.known))
    rw [entL_congr (nb := nb) s.known (fun p hp => upd_other _ _ (hkv p hp))]
    exact hF.map h.known hk
  · rw [hll] at hi
    by_cases hi2 : i < s.nds.length
    · rw [upd_other _ _ hi2]; exact h.bn i hi2
    · obtain rfl : i = s.nds.length := by omega
      rw [upd_same]; exact hxB
  · rw [hll] at hi
    by_cases hi2 : i < s.nds.length
    · rw [hnd i hi2] at hdi
      rw [upd_other _ _ hi2]; exact h.be i hi2 hdi
    · obtain rfl : i = s.nds.length := by omega
      rw [hnn] at hdi
      rw [upd_same]; exact (hd hdi).2.1
  · rw [hll] at hi
    by_cases hi2 : i < s.nds.length
    · rw [hnd i hi2] at hdi
      rw [upd_other _ _ hi2]; exact h.em i hi2 hdi
    · obtain rfl : i = s.nds.length := by omega
      rw [hnn] at hdi
      rw [upd_same]; exact ⟨(hd hdi).2.2.1, (hd hdi).2.2.2.1⟩
  · rw [hll] at hi hj
    by_cases hi2 : i < s.nds.length
    · by_cases hj2 : j < s.nds.length
      · rw [hnd i hi2] at hdi
        rw [hnd j hj2] at hdj
        rw [upd_other _ _ hi2, upd_other _ _ hj2] at e
        exact h.ee i j hi2 hj2 hdi hdj e
      · obtain rfl : j = s.nds.length := by omega
        rw [hnd i hi2] at hdi
        rw [hnn] at hdj
        rw [upd_other _ _ hi2, upd_same] at e
        exact absurd e ((hd hdj).2.2.2.2 i hi2 hdi)
    · obtain rfl : i = s.nds.length := by omega
      by_cases hj2 : j < s.nds.length
      · rw [hnn] at hdi
        rw [hnd j hj2] at hdj
        rw [upd_other _ _ hj2, upd_same] at e
        exact absurd e.symm ((hd hdi).2.2.2.2 j hj2 hdj)
      · omega
  · rw [hll] at hi hj
    by_cases hi2 : i < s.nds.length
    · by_cases hj2 : j < s.nds.length
      · rw [upd_other _ _ hi2, upd_other _ _ hj2] at e
        exact h.inj i j hi2 hj2 e
      · obtain rfl : j = s.nds.length := by omega
        rw [upd_other _ _ hi2, upd_same] at e
        exact absurd e (hxn i hi2)
    · obtain rfl : i = s.nds.length := by omega
      by_cases hj2 : j < s.nds.length
      · rw [upd_other _ _ hj2, upd_same] at e
        exact absurd e.symm (hxn j hj2)
      · omega
/-- a path more is known -/
theorem TC.know (ok : NAok NA) {w : World} {B : Nat} {s : TS} {mn kn : Nat} {nb eb : Nat → Nat} (h : TC NA w B s mn kn nb eb) (p : ByteArray) (j : Nat) {L : List (ByteArray × Value)} (hL : L = entL nb s.known ++ [(p, ptr (nb j))]) :
    TC NA (hset w kn (.map (mEs 0 (sL L)).toArray (sL L).length)) B ⟨s.nds, s.ents, s.known ++ [(p, j)]⟩ mn kn nb eb := by
  subst hL
  refine ⟨(hset_other h.km.symm).trans h.nodes, fun i hi => ok.stay (h.node i hi) (hset_other (map_ne h.known (ok.cells (h.node i hi)))), fun i hi hd => (hset_other (h.em i hi hd).2).trans (h.ents i hi hd), ?_, h.bm, h.bk, h.bn, h.be, h.km, h.em, h.ee, h.inj⟩
  show MapAt _ kn (sL (entL nb (s.known ++ [(p, j)])))
  rw [entL_app]
  exact h.known.put
/-- an entry more in a directory -/
theorem TC.entry (ok : NAok NA) {w : World} {B : Nat} {s : TS} {mn kn : Nat} {nb eb : Nat → Nat} (h : TC NA w B s mn kn nb eb) (hlen : s.ents.length = s.nds.length) (d : Nat) (hd : d < s.nds.length) (hdd : dirK (s.nd d) = true) (p : ByteArray) (j : Nat) {L : List (ByteArray × Value)} (hL : L = entL nb (s.en d) ++ [(p, ptr (nb j))]) :
    TC NA (hset w (eb d) (.map (mEs 0 (sL L)).toArray (sL L).length)) B ⟨s.nds, s.ents.set d (s.en d ++ [(p, j)]), s.known⟩ mn kn nb eb := by
  subst hL
  refine ⟨(hset_other (h.em d hd hdd).1.symm).trans h.nodes, fun i hi => ok.stay (h.node i hi) (hset_other (map_ne (h.ents d hd hdd) (ok.cells (h.node i hi)))), fun i hi hdi => ?_, (hset_other (h.em d hd hdd).2.symm).trans h.known, h.bm, h.bk, h.bn, h.be, h.km, h.em, h.ee, h.inj⟩
  show MapAt _ (eb i) (sL (entL nb ((s.ents.set d (s.en d ++ [(p, j)])).getD i [])))
  rw [en_set _ _ _ _ (by omega)]
  by_cases hi2 : i = d
  · subst hi2
    rw [if_pos rfl, entL_app]
    exact (h.ents i hi hdi).put
  · rw [if_neg hi2]
    exact (hset_other (fun e => hi2 (h.ee i d hi hd hdi hdd e))).trans (h.ents i hi hdi)
end
end Go.Proofs.YtclhdppepopgeaaGreatDoor
