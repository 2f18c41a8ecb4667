/- The tree's lists: a loader in memory. -/
import Derived.Test.YtclhdppepopgeaaGreatDoorTrNew
namespace Go.Proofs.YtclhdppepopgeaaGreatDoor
open Go.RowKit

structure LD (w : World) (B : Nat) (s : TS) (t mn kn x : Nat) (nb eb : Nat → Nat) (ch : Int) (vb vo vc : Nat) : Prop where
  tc : TC NodeAt w B s mn kn nb eb
  tree : w.heap[t]? = some (.cells (trC mn s.nds.length (.int .i64 ch) (.slice (some ⟨vb, 0, none⟩) 1 vc)) 67 (0, 0))
  volr : ∃ cs, w.heap[vb]? = some (.cells cs 108 (0, 0)) ∧ cs[0]? = some (ptr vo)
  volb : w.heap[vo]? = some (.cells #[.int .i64 1048576, .bool false, ptr (nb 0), .pointer none] 107 (0, 0))
  box : w.heap[x]? = some (.cells #[ptr t, .map (some kn)] 73 (0, 0))
  vcp : 1 ≤ vc
  bt : B ≤ t
  bv : B ≤ vb
  bo : B ≤ vo
  bx : B ≤ x
/-- blocks that are maps or nodes -/
def MN (w : World) (b : Nat) : Prop := b < w.heap.size → (∃ es c, w.heap[b]? = some (.map es c)) ∨ ∃ cs, w.heap[b]? = some (.cells cs 70 (0, 0))
theorem MN.ne {w : World} {a b : Nat} (h : MN w a) {cs : Array Value} {T : TypeId} (hb : w.heap[b]? = some (.cells cs T (0, 0))) (hT : T ≠ 70) : b ≠ a := fun e => by
  subst e
  rcases h (Array.getElem?_eq_some_iff.1 hb).1 with ⟨es, c, h⟩ | ⟨cs2, h⟩
  · rw [h] at hb; injection hb with hb; cases hb
  · rw [h] at hb; injection hb with hb; injection hb with _ hb; exact hT hb.symm
theorem MN.map {w : World} {b : Nat} {L : List (Value × Value)} (h : MapAt w b L) : MN w b := fun _ => .inl ⟨_, _, h⟩
theorem MN.node {w : World} {b i : Nat} {d : ND} {ev : Value} (h : NodeAt w b i d ev) : MN w b := fun _ => by
  obtain ⟨_, _, h⟩ := h
  exact .inr ⟨_, h⟩
/-- maps and nodes are changed, and the tree with them -/
theorem LD.turn {w w' : World} {B : Nat} {s s' : TS} {t mn kn x : Nat} {nb eb nb' eb' : Nat → Nat} {ch : Int} {vb vo vc : Nat} (h : LD w B s t mn kn x nb eb ch vb vo vc) {S : Nat → Prop} (hF : Fx S w w') (hS : ∀ b, S b → MN w b)
    (tc : TC NodeAt w' B s' mn kn nb' eb') (hl : s'.nds.length = s.nds.length) (h0 : nb' 0 = nb 0) : LD w' B s' t mn kn x nb' eb' ch vb vo vc := by
  obtain ⟨cs, hv1, hv2⟩ := h.volr
  refine ⟨tc, ?_, ⟨cs, hF.at hv1 (fun hs => (hS _ hs).ne hv1 (by decide) rfl), hv2⟩, ?_, hF.at h.box (fun hs => (hS _ hs).ne h.box (by decide) rfl), h.vcp, h.bt, h.bv, h.bo, h.bx⟩
  · rw [hl]; exact hF.at h.tree (fun hs => (hS _ hs).ne h.tree (by decide) rfl)
  · rw [h0]; exact hF.at h.volb (fun hs => (hS _ hs).ne h.volb (by decide) rfl)
theorem LD.keep {w w' : World} {B : Nat} {s : TS} {t mn kn x : Nat} {nb eb : Nat → Nat} {ch : Int} {vb vo vc : Nat} (h : LD w B s t mn kn x nb eb ch vb vo vc) (hb : Below w.heap.size w w') : LD w' B s t mn kn x nb eb ch vb vo vc :=
  h.turn (S := fun _ => False) (Fx.of_below hb) (fun _ h => h.elim) (h.tc.keep nodeOk hb) rfl rfl
/-- the last change of the tree -/
theorem LD.change {w : World} {B : Nat} {s : TS} {t mn kn x : Nat} {nb eb : Nat → Nat} {ch : Int} {vb vo vc : Nat} (h : LD w B s t mn kn x nb eb ch vb vo vc) (z : Int) : LD (w.setCell ⟨t, 2, none⟩ (.int .i64 z)) B s t mn kn x nb eb z vb vo vc := by
  have hF : Fx (fun b => b = t) w (w.setCell ⟨t, 2, none⟩ (.int .i64 z)) := Fx.setCell (S := fun b => b = t) w rfl 2 _
  have ht := h.tree
  have hne : ∀ {b : Nat} {cs : Array Value} {T : TypeId}, w.heap[b]? = some (.cells cs T (0, 0)) → T ≠ 67 → b ≠ t := fun hb hT e => by
    rw [e, ht] at hb
    injection hb with hb
    injection hb with _ hb
    exact hT hb.symm
  have hmap : ∀ {b : Nat} {L : List (Value × Value)}, MapAt w b L → b ≠ t := fun hb e => by
    unfold MapAt at hb
    rw [e, ht] at hb
    injection hb with hb
    cases hb
  obtain ⟨cs, hv1, hv2⟩ := h.volr
  refine ⟨h.tc.oth nodeOk hF (hmap h.tc.nodes) (hmap h.tc.known) (fun i hi hd => hmap (h.tc.ents i hi hd)) (fun i hi => ?_), heap_setCell_same w t 2 _ _ _ ht, ⟨cs, hF.at hv1 (hne hv1 (by decide)), hv2⟩, hF.at h.volb (hne h.volb (by decide)), hF.at h.box (hne h.box (by decide)), h.vcp, h.bt, h.bv, h.bo, h.bx⟩
  obtain ⟨_, _, h⟩ := h.tc.node i hi
  exact hne h (by decide)
/-- what the tree is in memory -/
theorem LD.tm {w : World} {B : Nat} {s : TS} {t mn kn x : Nat} {nb eb : Nat → Nat} {ch : Int} {vb vo vc : Nat} (h : LD w B s t mn kn x nb eb ch vb vo vc) : TM w s t mn nb eb ch vb vo vc := by
  obtain ⟨cs, hv1, hv2⟩ := h.volr
  exact ⟨h.tree, by simp [World.cell?, hv1, hv2], h.volb, h.vcp, h.tc.nodes, h.tc.node, h.tc.ents⟩
/-- a path that is known -/
theorem LD.byPath {w : World} {B : Nat} {s : TS} {t mn kn x : Nat} {nb eb : Nat → Nat} {ch : Int} {vb vo vc : Nat} (h : LD w B s t mn kn x nb eb ch vb vo vc) (k : ByteArray) :
    (Instr.lookup 68 (.map (some kn)) (.string k) false).run Tryz.prog w = .ok (match getA s.known k with | some j => ptr (nb j) | none => .pointer none) w := by
  rw [lookup_s mapE undS zeroP h.tc.known, getS_ent]
  cases getA s.known k <;> rfl
/-- a node more -/
theorem LD.add {w w' : World} {B : Nat} {s : TS} {t mn kn x : Nat} {nb eb : Nat → Nat} {ch : Int} {vb vo vc : Nat} (h : LD w B s t mn kn x nb eb ch vb vo vc) {N : Nat} (hw : WF s N) (hBw : B ≤ w.heap.size) (d : ND) (y e0 : Nat)
    (hyw : w.heap.size ≤ y) {w1 : World} (hb1 : Below w.heap.size w w1) (ht : w'.heap[t]? = some (.cells (trC mn (s.nds.length + 1) (.int .i64 ch) (.slice (some ⟨vb, 0, none⟩) 1 vc)) 67 (0, 0)))
    (hm : MapAt w' mn (iL (((List.range s.nds.length).map fun i => (((i + 1 : Nat) : Int), ptr (nb i))) ++ [(((s.nds.length + 1 : Nat) : Int), ptr y)]))) (hy : w'.heap[y]? = some (.cells (ndCells s.nds.length d 0 0 (evV d e0)) 70 (0, 0)))
    (he : dirK d = true → w1.heap.size ≤ e0 ∧ MapAt w' e0 []) (hF : Fx (fun b => b = t ∨ b = mn ∨ b = y) w1 w') :
    LD w' B ⟨s.nds ++ [d], s.ents ++ [[]], s.known⟩ t mn kn x (upd nb s.nds.length y) (upd eb s.nds.length e0) ch vb vo vc := by
  have hF2 : Fx (fun b => b = t ∨ b = mn ∨ b = y) w w' := (Fx.of_below hb1).trans hF
  have ht0 := h.tree
  have hne : ∀ {b : Nat} {cs : Array Value} {T : TypeId}, w.heap[b]? = some (.cells cs T (0, 0)) → T ≠ 67 → ¬ (b = t ∨ b = mn ∨ b = y) := fun hb hT e => by
    rcases e with e | e | e
    · rw [e, ht0] at hb
      injection hb with hb
      injection hb with _ hb
      exact hT hb.symm
    · have hm0 := h.tc.nodes
      unfold MapAt at hm0
      rw [e, hm0] at hb
      injection hb with hb
      cases hb
    · have := (Array.getElem?_eq_some_iff.1 hb).1
      omega
  have hmap : ∀ {b : Nat} {L : List (Value × Value)}, MapAt w b L → b ≠ mn → ¬ (b = t ∨ b = mn ∨ b = y) := fun hb hn e => by
    rcases e with e | e | e
    · unfold MapAt at hb
      rw [e, ht0] at hb
      injection hb with hb
      cases hb
    · exact hn e
    · have := hb.lt
      omega
  have hnd : ∀ i, i < s.nds.length → ¬ (nb i = t ∨ nb i = mn ∨ nb i = y) := fun i hi => by
    obtain ⟨_, _, h⟩ := h.tc.node i hi
    exact hne h (by decide)
  obtain ⟨cs, hv1, hv2⟩ := h.volr
  have hl : (TS.mk (s.nds ++ [d]) (s.ents ++ [[]]) s.known).nds.length = s.nds.length + 1 := by simp
  have hsz := hb1.size
  refine ⟨h.tc.addN nodeOk hw.len (fun i p hp => (hw.val i p hp).1) hw.kn d y e0 hF2 (hmap h.tc.known h.tc.km) (fun i hi hd => hmap (h.tc.ents i hi hd) (h.tc.em i hi hd).1) hnd hm ⟨0, 0, hy⟩ (by omega) (fun i hi e => ?_) (fun hd => ?_), by rw [hl]; exact ht, ⟨cs, hF2.at hv1 (hne hv1 (by decide)), hv2⟩, ?_, hF2.at h.box (hne h.box (by decide)), h.vcp, h.bt, h.bv, h.bo, h.bx⟩
  · have := (nodeOk.cells (h.tc.node i hi)).lt
    omega
  · obtain ⟨h1, h2⟩ := he hd
    refine ⟨h2, by omega, ?_, ?_, fun i hi hdi => ?_⟩
    · have := h.tc.nodes.lt; omega
    · have := h.tc.known.lt; omega
    · have := (h.tc.ents i hi hdi).lt; omega
  · rw [upd_other nb y hw.pos]
    exact hF2.at h.volb (hne h.volb (by decide))
/-- all that a tree's changes touch lies above its base -/
theorem LD.above {w w' : World} {B : Nat} {s : TS} {t mn kn x : Nat} {nb eb : Nat → Nat} {ch : Int} {vb vo vc : Nat} (h : LD w B s t mn kn x nb eb ch vb vo vc) (hBw : B ≤ w.heap.size) {d j : Nat} (hd : d < s.nds.length) (hdd : dirK (s.nd d) = true) (hj : j < s.nds.length) (hF : Fx (fun b => b = eb d ∨ b = nb j) w w') : Below B w w' :=
  hF.below (fun b hb => by
    rcases hb with rfl | rfl
    · exact h.tc.be d hd hdd
    · exact h.tc.bn j hj) hBw
end Go.Proofs.YtclhdppepopgeaaGreatDoor
