/- The tree's lists, the reference: an entry is put; the tree and the paths that are known, in memory. -/
import Derived.Test.YtclhdppepopgeaaGreatDoorTfMem
namespace Go.Proofs.YtclhdppepopgeaaGreatDoor
open Go.RowKit

set_option maxRecDepth 100000 in
set_option maxHeartbeats 3200000 in
theorem rput_any (vo : Nat) (w : World) (B : Nat) (s : TS) (mn kn : Nat) (nb eb : Nat → Nat) (h : TC (RNode vo) w B s mn kn nb eb) (hlen : s.ents.length = s.nds.length) (d : Nat) (hd : d < s.nds.length) (hdd : dirK (s.nd d) = true) (name : ByteArray) (j : Nat) (hj : j < s.nds.length) (hg : getA (s.en d) name = none) (t : Value) :
    Calls Tryz.prog 16 #[t, ptr (nb d), .string name, ptr (nb j)] w fun e w' => e = .returned (.tuple #[]) ∧ TC (RNode vo) w' B ⟨s.nds, s.ents.set d (s.en d ++ [(name, j)]), s.known⟩ mn kn nb eb ∧ Fx (fun b => b = eb d ∨ b = nb j) w w' := by
  -- the entry
  have hgs : getS (entL nb (s.en d)) name = none := by rw [getS_ent, hg]; rfl
  obtain ⟨w2, hmu, hw2⟩ := put_s (P := Tryz.prog) rmapE undS (h.ents d hd hdd) name (ptr (nb j)) hgs
  have h2 : TC (RNode vo) w2 B ⟨s.nds, s.ents.set d (s.en d ++ [(name, j)]), s.known⟩ mn kn nb eb := by rw [hw2]; exact h.entry (rnodeOk vo) hlen d hd hdd name j rfl
  have hF2 : Fx (fun b => b = eb d ∨ b = nb j) w w2 := by rw [hw2]; exact Fx.hset _ (.inl rfl) _
  -- the count of names
  obtain ⟨n, n7, n7f, hset7⟩ := (h2.node j hj).links
  obtain ⟨z, hz⟩ : ∃ z, z = wrap64 (n + 1) := ⟨_, rfl⟩
  obtain ⟨w3, hw3⟩ : ∃ w3, w3 = w2.setCell ⟨nb j, 9, none⟩ (.int .i64 z) := ⟨_, rfl⟩
  have hF23 : Fx (fun b => b = nb j) w2 w3 := by rw [hw3]; exact Fx.setCell (S := fun b => b = nb j) w2 rfl 9 _
  have h3 : TC (RNode vo) w3 B ⟨s.nds, s.ents.set d (s.en d ++ [(name, j)]), s.known⟩ mn kn nb eb := h2.one (rnodeOk vo) j hj hF23 (by rw [hw3]; exact hset7 z)
  have hF3 : Fx (fun b => b = eb d ∨ b = nb j) w w3 := hF2.trans (hF23.mono fun b hb => .inr hb)
  have k2 := (h3.node j hj).cells.2.1
  -- what it lies in
  obtain ⟨p, n9, n9f, hset9⟩ := (h3.node j hj).up
  obtain ⟨w4, hw4⟩ : ∃ w4, w4 = w3.setCell ⟨nb j, 8, none⟩ (ptr (nb d)) := ⟨_, rfl⟩
  have hF34 : Fx (fun b => b = nb j) w3 w4 := by rw [hw4]; exact Fx.setCell (S := fun b => b = nb j) w3 rfl 8 _
  have h4 : TC (RNode vo) w4 B ⟨s.nds, s.ents.set d (s.en d ++ [(name, j)]), s.known⟩ mn kn nb eb := h3.one (rnodeOk vo) j hj hF34 (by rw [hw4]; exact hset9 _)
  have hF4 : Fx (fun b => b = eb d ∨ b = nb j) w w4 := hF3.trans (hF34.mono fun b hb => .inr hb)
  have c11 : w.cell? ⟨nb d, 7, none⟩ = some (.map (some (eb d))) := by
    have := (h.node d hd).cells.2.2.2.2.2.2.2.1
    unfold evV at this
    rw [hdd] at this
    exact this
  have HZ : Hid (wrap64 (n + 1) = z) := Lib.hid hz.symm
  have HW3 : Hid (w2.setCell ⟨nb j, 9, none⟩ (.int .i64 z) = w3) := Lib.hid hw3.symm
  have HW4 : Hid (w3.setCell ⟨nb j, 8, none⟩ (ptr (nb d)) = w4) := Lib.hid hw4.symm
  obtain ⟨kj, hkj⟩ : ∃ kj, kj = (TS.nd ⟨s.nds, s.ents.set d (s.en d ++ [(name, j)]), s.known⟩ j).kind := ⟨_, rfl⟩
  rw [← hkj] at k2
  obtain ⟨Q, hQ⟩ : ∃ Q : World → Prop, Q = fun w' => TC (RNode vo) w' B ⟨s.nds, s.ents.set d (s.en d ++ [(name, j)]), s.known⟩ mn kn nb eb ∧ Fx (fun b => b = eb d ∨ b = nb j) w w' := ⟨_, rfl⟩
  have HQ3 : Hid (Q w3) := Lib.hid (by rw [hQ]; exact ⟨h3, hF3⟩)
  have HQ4 : Hid (Q w4) := Lib.hid (by rw [hQ]; exact ⟨h4, hF4⟩)
  have HQ : Hid (∀ w', Q w' → TC (RNode vo) w' B ⟨s.nds, s.ents.set d (s.en d ++ [(name, j)]), s.known⟩ mn kn nb eb ∧ Fx (fun b => b = eb d ∨ b = nb j) w w') := Lib.hid (fun w' h => by rw [hQ] at h; exact h)
  suffices hS : Calls Tryz.prog 16 #[t, ptr (nb d), .string name, ptr (nb j)] w fun e w' => e = .returned (.tuple #[]) ∧ Q w' from hS.mono fun e w' h => ⟨h.1, HQ.out w' h.2⟩
  clear hkj h h2 h3 h4 hF2 hF3 hF4 hF23 hF34 hset7 hset9 hw2 hw3 hw4 hz hgs hlen hd hdd hj hg hQ HQ
  generalize nb d = nd at *
  generalize nb j = nj at *
  generalize eb d = ed at *
  go_enter Tryz.func16, Tryz.ntmps16
  go_upto_region 1 with fail
  clear hmu c11
  go_upto_region 2 with fail
  rw [HZ.out, HW3.out]
  clear n7 n7f
  obtain ⟨bk, hbk⟩ : ∃ b, b = (kj == 2) := ⟨_, rfl⟩
  go_upto_if 25 with fail
  rw [← hbk]
  clear hbk
  cases bk with
  | false =>
    go_wp2_with fail
    go_end0
    exact ⟨rfl, HQ3.out⟩
  | true =>
    go_wp2_with fail
    rw [HW4.out]
    go_end0
    exact ⟨rfl, HQ4.out⟩
structure RL (w : World) (B : Nat) (s : TS) (t mn kn : Nat) (nb eb : Nat → Nat) (ch : Int) (vb vo vc : Nat) : Prop where
  tc : TC (RNode vo) w B s mn kn nb eb
  tree : w.heap[t]? = some (.cells (flC mn s.nds.length (.int .i64 ch) (.slice (some ⟨vb, 0, none⟩) 1 vc)) 52 (0, 0))
  volr : ∃ cs, w.heap[vb]? = some (.cells cs 48 (0, 0)) ∧ cs[0]? = some (ptr vo)
  volb : w.heap[vo]? = some (.cells #[.int .i64 0, .int .i64 1048576, .bool false, ptr (nb 0), .pointer none] 47 (0, 0))
  vcp : 1 ≤ vc
  bt : B ≤ t
  bv : B ≤ vb
  bo : B ≤ vo
/-- blocks that are maps or nodes -/
def RMN (w : World) (b : Nat) : Prop := b < w.heap.size → (∃ es c, w.heap[b]? = some (.map es c)) ∨ ∃ cs, w.heap[b]? = some (.cells cs 55 (0, 0))
theorem RMN.ne {w : World} {a b : Nat} (h : RMN w a) {cs : Array Value} {T : TypeId} (hb : w.heap[b]? = some (.cells cs T (0, 0))) (hT : T ≠ 55) : b ≠ a := fun e => by
  subst e
  rcases h (Array.getElem?_eq_some_iff.1 hb).1 with ⟨es, c, h⟩ | ⟨cs2, h⟩
  · rw [h] at hb; injection hb with hb; cases hb
  · rw [h] at hb; injection hb with hb; injection hb with _ hb; exact hT hb.symm
theorem RMN.map {w : World} {b : Nat} {L : List (Value × Value)} (h : MapAt w b L) : RMN w b := fun _ => .inl ⟨_, _, h⟩
theorem RMN.node {vo : Nat} {w : World} {b i : Nat} {d : ND} {ev : Value} (h : RNode vo w b i d ev) : RMN w b := fun _ => by
  obtain ⟨_, _, h⟩ := h
  exact .inr ⟨_, h⟩
/-- maps and nodes are changed, and the tree with them -/
theorem RL.turn {w w' : World} {B : Nat} {s s' : TS} {t mn kn : Nat} {nb eb nb' eb' : Nat → Nat} {ch : Int} {vb vo vc : Nat} (h : RL w B s t mn kn nb eb ch vb vo vc) {S : Nat → Prop} (hF : Fx S w w') (hS : ∀ b, S b → RMN w b)
    (tc : TC (RNode vo) w' B s' mn kn nb' eb') (hl : s'.nds.length = s.nds.length) (h0 : nb' 0 = nb 0) : RL w' B s' t mn kn nb' eb' ch vb vo vc := by
  obtain ⟨cs, hv1, hv2⟩ := h.volr
  refine ⟨tc, ?_, ⟨cs, hF.at hv1 (fun hs => (hS _ hs).ne hv1 (by decide) rfl), hv2⟩, ?_, h.vcp, h.bt, h.bv, h.bo⟩
  · rw [hl]; exact hF.at h.tree (fun hs => (hS _ hs).ne h.tree (by decide) rfl)
  · rw [h0]; exact hF.at h.volb (fun hs => (hS _ hs).ne h.volb (by decide) rfl)
theorem RL.keep {w w' : World} {B : Nat} {s : TS} {t mn kn : Nat} {nb eb : Nat → Nat} {ch : Int} {vb vo vc : Nat} (h : RL w B s t mn kn nb eb ch vb vo vc) (hb : Below w.heap.size w w') : RL w' B s t mn kn nb eb ch vb vo vc :=
  h.turn (S := fun _ => False) (Fx.of_below hb) (fun _ h => h.elim) (h.tc.keep (rnodeOk vo) hb) rfl rfl
/-- the last change of the tree -/
theorem RL.change {w : World} {B : Nat} {s : TS} {t mn kn : Nat} {nb eb : Nat → Nat} {ch : Int} {vb vo vc : Nat} (h : RL w B s t mn kn nb eb ch vb vo vc) (z : Int) : RL (w.setCell ⟨t, 2, none⟩ (.int .i64 z)) B s t mn kn nb eb z vb vo vc := by
  have hF : Fx (fun b => b = t) w (w.setCell ⟨t, 2, none⟩ (.int .i64 z)) := Fx.setCell (S := fun b => b = t) w rfl 2 _
  have ht := h.tree
  have hne : ∀ {b : Nat} {cs : Array Value} {T : TypeId}, w.heap[b]? = some (.cells cs T (0, 0)) → T ≠ 52 → b ≠ t := fun hb hT e => by
    rw [e, ht] at hb
    injection hb with hb
    injection hb with _ hb
    exact hT hb.symm
  have hmap : ∀ {b : Nat} {L : List (Value × Value)}, MapAt w b L → b ≠ t := fun hb e => by
    unfold MapAt at hb
    rw [e, ht] at hb
    injection hb with hb
    cases hb
  obtain ⟨cs, hv1, hv2⟩ := h.volr
  refine ⟨h.tc.oth (rnodeOk vo) hF (hmap h.tc.nodes) (hmap h.tc.known) (fun i hi hd => hmap (h.tc.ents i hi hd)) (fun i hi => ?_), heap_setCell_same w t 2 _ _ _ ht, ⟨cs, hF.at hv1 (hne hv1 (by decide)), hv2⟩, hF.at h.volb (hne h.volb (by decide)), h.vcp, h.bt, h.bv, h.bo⟩
  obtain ⟨_, _, h⟩ := h.tc.node i hi
  exact hne h (by decide)
/-- a path that is known -/
theorem RL.byPath {w : World} {B : Nat} {s : TS} {t mn kn : Nat} {nb eb : Nat → Nat} {ch : Int} {vb vo vc : Nat} (h : RL w B s t mn kn nb eb ch vb vo vc) (k : ByteArray) :
    (Instr.lookup 53 (.map (some kn)) (.string k) false).run Tryz.prog w = .ok (match getA s.known k with | some j => ptr (nb j) | none => .pointer none) w := by
  rw [lookup_s rmapE undS rzeroP h.tc.known, getS_ent]
  cases getA s.known k <;> rfl
/-- a node more -/
theorem RL.add {w w' : World} {B : Nat} {s : TS} {t mn kn : Nat} {nb eb : Nat → Nat} {ch : Int} {vb vo vc : Nat} (h : RL w B s t mn kn nb eb ch vb vo vc) {N : Nat} (hw : WF s N) (hBw : B ≤ w.heap.size) (d : ND) (y e0 : Nat) (up : Value) (links : Int)
    (hyw : w.heap.size ≤ y) {w1 : World} (hb1 : Below w.heap.size w w1) (ht : w'.heap[t]? = some (.cells (flC mn (s.nds.length + 1) (.int .i64 ch) (.slice (some ⟨vb, 0, none⟩) 1 vc)) 52 (0, 0)))
    (hm : MapAt w' mn (iL (((List.range s.nds.length).map fun i => (((i + 1 : Nat) : Int), ptr (nb i))) ++ [(((s.nds.length + 1 : Nat) : Int), ptr y)]))) (hy : w'.heap[y]? = some (.cells (rnCells vo s.nds.length d (evV d e0) up links) 55 (0, 0)))
    (he : dirK d = true → w1.heap.size ≤ e0 ∧ MapAt w' e0 []) (hF : Fx (fun b => b = t ∨ b = mn ∨ b = y) w1 w') :
    RL w' B ⟨s.nds ++ [d], s.ents ++ [[]], s.known⟩ t mn kn (upd nb s.nds.length y) (upd eb s.nds.length e0) ch vb vo vc := by
  have hF2 : Fx (fun b => b = t ∨ b = mn ∨ b = y) w w' := (Fx.of_below hb1).trans hF
  have ht0 := h.tree
  have hne : ∀ {b : Nat} {cs : Array Value} {T : TypeId}, w.heap[b]? = some (.cells cs T (0, 0)) → T ≠ 52 → ¬ (b = t ∨ b = mn ∨ b = y) := fun hb hT e => by
    rcases e with e | e | e
    · rw [e, ht0] at hb
      injection hb with hb
      injection hb with _ hb
      exact hT hb.symm
    · have hm0 := h.tc.nodes
      unfold MapAt at hm0
      rw [e, hm0] at hb
      injection hb with hb
      cases hb
    · have := (Array.getElem?_eq_some_iff.1 hb).1
      omega
  have hmap : ∀ {b : Nat} {L : List (Value × Value)}, MapAt w b L → b ≠ mn → ¬ (b = t ∨ b = mn ∨ b = y) := fun hb hn e => by
    rcases e with e | e | e
    · unfold MapAt at hb
      rw [e, ht0] at hb
      injection hb with hb
      cases hb
    · exact hn e
    · have := hb.lt
      omega
  have hnd : ∀ i, i < s.nds.length → ¬ (nb i = t ∨ nb i = mn ∨ nb i = y) := fun i hi => by
    obtain ⟨_, _, h⟩ := h.tc.node i hi
    exact hne h (by decide)
  obtain ⟨cs, hv1, hv2⟩ := h.volr
  have hl : (TS.mk (s.nds ++ [d]) (s.ents ++ [[]]) s.known).nds.length = s.nds.length + 1 := by simp
  have hsz := hb1.size
  refine ⟨h.tc.addN (rnodeOk vo) hw.len (fun i p hp => (hw.val i p hp).1) hw.kn d y e0 hF2 (hmap h.tc.known h.tc.km) (fun i hi hd => hmap (h.tc.ents i hi hd) (h.tc.em i hi hd).1) hnd hm ⟨up, links, hy⟩ (by omega) (fun i hi e => ?_) (fun hd => ?_), by rw [hl]; exact ht, ⟨cs, hF2.at hv1 (hne hv1 (by decide)), hv2⟩, ?_, h.vcp, h.bt, h.bv, h.bo⟩
  · have := ((rnodeOk vo).cells (h.tc.node i hi)).lt
    omega
  · obtain ⟨h1, h2⟩ := he hd
    refine ⟨h2, by omega, ?_, ?_, fun i hi hdi => ?_⟩
    · have := h.tc.nodes.lt; omega
    · have := h.tc.known.lt; omega
    · have := (h.tc.ents i hi hdi).lt; omega
  · rw [upd_other nb y hw.pos]
    exact hF2.at h.volb (hne h.volb (by decide))
/-- all that a tree's changes touch lies above its base -/
theorem RL.above {w w' : World} {B : Nat} {s : TS} {t mn kn : Nat} {nb eb : Nat → Nat} {ch : Int} {vb vo vc : Nat} (h : RL w B s t mn kn nb eb ch vb vo vc) (hBw : B ≤ w.heap.size) {d j : Nat} (hd : d < s.nds.length) (hdd : dirK (s.nd d) = true) (hj : j < s.nds.length) (hF : Fx (fun b => b = eb d ∨ b = nb j) w w') : Below B w w' :=
  hF.below (fun b hb => by
    rcases hb with rfl | rfl
    · exact h.tc.be d hd hdd
    · exact h.tc.bn j hj) hBw
end Go.Proofs.YtclhdppepopgeaaGreatDoor
