/- The tree's lists: a dumper in memory. -/
import Derived.Test.YtclhdppepopgeaaGreatDoorTrEq
import Derived.Test.YtclhdppepopgeaaGreatDoorTrSort
import Derived.Test.YtclhdppepopgeaaGreatDoorTrLen
namespace Go.Proofs.YtclhdppepopgeaaGreatDoor
open Go.RowKit

theorem own_form {w : World} {B e s n : Nat} {v : Value} {xs : List Value} (h : w.ownsRow B e s v n xs) : ∃ A c, v = .slice A n c := by
  rcases h.2 with ⟨rfl, h0⟩ | ⟨g, cap, cur, rfl, _⟩
  · exact ⟨none, 0, by rw [h0]⟩
  · exact ⟨_, _, rfl⟩
theorem own_block_is {w : World} {B e s n : Nat} {v : Value} {xs : List Value} (h : w.ownsRow B e s v n xs) (g : Nat) (hg : v.ownBlock = some g) : ∃ cur, w.heap[g]? = some (.cells cur e (0, 0)) := by
  rcases h.2 with ⟨rfl, h0⟩ | ⟨g', cap, cur, rfl, _, h1, _⟩
  · cases hg
  · injection hg with hg
    subst hg
    exact ⟨cur, h1⟩
theorem new_row (w : World) (us : List Value) (t : TypeId) : ∀ j z, us[j]? = some z → (w.alloc (.cells us.toArray t)).cell? ((⟨w.heap.size, 0, none⟩ : Addr).add j) = some z := fun j z hz => by
  have hh := heap_alloc_new w (.cells us.toArray t)
  rw [WideShapes.add_plain]
  unfold World.cell?
  dsimp only
  rw [hh]
  dsimp only
  rw [Nat.zero_add]
  simpa using hz
theorem grown_set (w : World) (b i : Nat) (u : Value) : w.grownBy (w.setCell ⟨b, i, none⟩ u) (some b) :=
  ⟨rfl, rfl, rfl, by simp [World.setCell], fun k _ hne => heap_setCell_other w ⟨b, i, none⟩ k u (fun e => hne (by rw [e]))⟩
theorem feInfo : (Tryz.prog.info? 33).map (fun i => (i.zero, i.size, i.bytes)) = some (some (.agg #[.string ByteArray.empty, .int .i64 0, .int .i64 0, .int .i64 0, .int .i64 0, .string ByteArray.empty, .int .i64 0, .string ByteArray.empty]), 8, 88) := by kernel_rfl
/-- the cells of a list of entries -/
abbrev rowsF (l : List FE) : List Value := l.flatMap feC
theorem rowsF_len (l : List FE) : (rowsF l).length = l.length * 8 := by
  induction l with
  | nil => rfl
  | cons e l ih => rw [rowsF, List.flatMap_cons, List.length_append, List.length_cons]; simp only [rowsF] at ih; rw [ih]; simp [feC]; omega
theorem rowsF_get : ∀ (l : List FE) (j : Nat) (h : j < l.length) (k : Nat), k < 8 → (rowsF l)[j * 8 + k]? = (feC l[j])[k]?
  | [], _, h, _, _ => by simp at h
  | e :: l, 0, _, k, hk => by
    rw [rowsF, List.flatMap_cons, List.getElem?_append_left (by simp [feC]; omega)]
    simp
  | e :: l, j + 1, h, k, hk => by
    rw [rowsF, List.flatMap_cons, List.getElem?_append_right (by simp [feC]; omega), show (j + 1) * 8 + k - (feC e).length = j * 8 + k by simp [feC]; omega]
    exact rowsF_get l j (by simpa using h) k hk
/-- a list of entries that is built, above a base -/
def OwnF (base : Nat) (v : Value) (l : List FE) (w : World) : Prop := w.ownsRow base 33 8 v l.length (rowsF l)
theorem OwnF.keep {base : Nat} {v : Value} {l : List FE} {w w' : World} (h : OwnF base v l w) (hb : Below w.heap.size w w') : OwnF base v l w' :=
  World.ownsRow.kept (row := none) h ⟨hb.os, hb.tape, hb.output, hb.size, fun k hk _ => hb.block k hk⟩ (by cases v.ownBlock <;> simp)
theorem OwnF.nil (base : Nat) (w : World) : OwnF base (.slice none 0 0) [] w := World.ownsRow_nil _ _ _ _
theorem OwnF.form {base : Nat} {v : Value} {l : List FE} {w : World} (h : OwnF base v l w) : ∃ A c, v = .slice A l.length c := own_form h
theorem OwnF.fl {base : Nat} {v : Value} {l : List FE} {w : World} (h : OwnF base v l w) : FL w v l := by
  rcases h.2 with ⟨rfl, h0⟩ | ⟨g, cap, cur, rfl, _, hh, hcap, _, _, ht⟩
  · exact ⟨none, 0, by rw [h0], by omega, fun hp => by omega⟩
  · refine ⟨_, cap, rfl, hcap, fun hp => ⟨g, 0, rfl, (World.ownsRow.lt h g rfl).2, fun j hj => ?_⟩⟩
    have key : ∀ k x, k < 8 → (feC l[j])[k]? = some x → w.cell? ⟨g, 0 + j * 8 + k, none⟩ = some x := fun k x hk hx => by
      have h2 := World.ownsRow.cells h (g := g) rfl (j * 8 + k) x (by rw [rowsF_get l j hj k hk]; exact hx)
      rw [WideShapes.add_plain] at h2
      rwa [show 0 + j * 8 + k = 0 + (j * 8 + k) by omega]
    exact ⟨key 0 _ (by omega) rfl, key 1 _ (by omega) rfl, key 2 _ (by omega) rfl, key 3 _ (by omega) rfl, key 4 _ (by omega) rfl, key 5 _ (by omega) rfl, key 6 _ (by omega) rfl, key 7 _ (by omega) rfl⟩
/-- blocks that are no list of entries stay -/
def OthF (w w' : World) : Prop := ∀ (b : Nat) (o : Obj), w.heap[b]? = some o → (∀ cs fr, o ≠ .cells cs 33 fr) → w'.heap[b]? = some o
/-- an entry is added to a list -/
theorem app_fe {ops : Array Oper} {rest : List Oper} {o : Oper} {a : Act} {Q : Exit → Act → World → Prop} {w : World} (hgd : o.guard = none) (s x : Operand)
    (ho : o.op = .call { callee := .builtin .append, args := #[s, x], argTypes := #[22, 22] })
    (base : Nat) (v : Value) (L : List FE) (hown : OwnF base v L w) (hs : a.eval s = v) (y : FE) (hx : a.eval x = .slice (some ⟨w.heap.size, 0, none⟩) 1 1)
    (hL : L.length ≤ 10000000) (hbase : base ≤ w.heap.size)
    (h : ∀ A c w', OwnF base (.slice A (L.length + 1) c) (L ++ [y]) w' → Below base w w' → OthF w w' → wpList Tryz.prog ops Q rest (a.put o.dst (.slice A (L.length + 1) c)) w') : wpList Tryz.prog ops Q (o :: rest) a (w.alloc (.cells (feC y).toArray 33)) := by
  obtain ⟨i0, hi, hz0, hz1, hz2⟩ := info_parts feInfo
  have hO : (w.alloc (.cells (feC y).toArray 33)).ownsRow base 33 8 v L.length (rowsF L) := World.ownsRow.alloc hown _
  refine wpList_append_own _ hgd s x 22 ho base 33 i0 (.agg #[.string ByteArray.empty, .int .i64 0, .int .i64 0, .int .i64 0, .int .i64 0, .string ByteArray.empty, .int .i64 0, .string ByteArray.empty]) 8 88 Tryz.underlying22 hi hz0 hz1 hz2 rfl (by decide) v L.length (rowsF L) hs hO ⟨w.heap.size, 0, none⟩ 1 1 (feC y) hx rfl (new_row w (feC y) 33) (fun u hu => by simp [feC] at hu; rcases hu with rfl | rfl | rfl | rfl | rfl | rfl | rfl | rfl <;> rfl) (by unfold maxLen; omega) (by omega) (by simp; omega) ?_
  intro v' w' h1 h2 _
  have h3 : OwnF base v' (L ++ [y]) w' := by
    unfold OwnF
    rw [List.length_append, rowsF, List.flatMap_append, List.flatMap_cons, List.flatMap_nil, List.append_nil]
    exact h1
  obtain ⟨A, c, rfl⟩ := h3.form
  have hl : (L ++ [y]).length = L.length + 1 := by simp
  rw [hl] at h3 ⊢
  refine h A c w' h3 (((Below.refl base w).alloc hbase _).grown h2 (by simp; omega) (fun g hg => (World.ownsRow.lt hO g hg).1)) (fun b o hb hT => ?_)
  have hlt : b < w.heap.size := (Array.getElem?_eq_some_iff.1 hb).1
  have hb2 : (w.alloc (.cells (feC y).toArray 33)).heap[b]? = some o := (Below.heap_alloc _ _ _ hlt).trans hb
  exact (h2.block b (by simp; omega) (fun e => by
    obtain ⟨cur, hc⟩ := own_block_is hO b e.symm
    rw [hb2] at hc
    injection hc with hc
    exact hT _ _ hc)).trans hb2

/-- .. as one operation of a drawn region -/
theorem wp_app_fe {o : Oper} {a : Act} {K : Act → World → Prop} {Q : Exit → Act → World → Prop} {w : World} (s x : Operand)
    (ho : o.op = .call { callee := .builtin .append, args := #[s, x], argTypes := #[22, 22] })
    (base : Nat) (v : Value) (L : List FE) (hown : OwnF base v L w) (hs : a.eval s = v) (y : FE) (hx : a.eval x = .slice (some ⟨w.heap.size, 0, none⟩) 1 1)
    (hL : L.length ≤ 10000000) (hbase : base ≤ w.heap.size)
    (h : ∀ A c w', OwnF base (.slice A (L.length + 1) c) (L ++ [y]) w' → Below base w w' → OthF w w' → K (a.put o.dst (.slice A (L.length + 1) c)) w') : o.wp Tryz.prog a (w.alloc (.cells (feC y).toArray 33)) K Q := by
  obtain ⟨i0, hi, hz0, hz1, hz2⟩ := info_parts feInfo
  have hO : (w.alloc (.cells (feC y).toArray 33)).ownsRow base 33 8 v L.length (rowsF L) := World.ownsRow.alloc hown _
  refine wp_append_own _ s x 22 ho base 33 i0 (.agg #[.string ByteArray.empty, .int .i64 0, .int .i64 0, .int .i64 0, .int .i64 0, .string ByteArray.empty, .int .i64 0, .string ByteArray.empty]) 8 88 Tryz.underlying22 hi hz0 hz1 hz2 rfl (by decide) v L.length (rowsF L) hs hO ⟨w.heap.size, 0, none⟩ 1 1 (feC y) hx rfl (new_row w (feC y) 33) (fun u hu => by simp [feC] at hu; rcases hu with rfl | rfl | rfl | rfl | rfl | rfl | rfl | rfl <;> rfl) (by unfold maxLen; omega) (by omega) (by simp; omega) ?_
  intro v' w' h1 h2 _
  have h3 : OwnF base v' (L ++ [y]) w' := by
    unfold OwnF
    rw [List.length_append, rowsF, List.flatMap_append, List.flatMap_cons, List.flatMap_nil, List.append_nil]
    exact h1
  obtain ⟨A, c, rfl⟩ := h3.form
  have hl : (L ++ [y]).length = L.length + 1 := by simp
  rw [hl] at h3 ⊢
  refine h A c w' h3 (((Below.refl base w).alloc hbase _).grown h2 (by simp; omega) (fun g hg => (World.ownsRow.lt hO g hg).1)) (fun b o hb hT => ?_)
  have hlt : b < w.heap.size := (Array.getElem?_eq_some_iff.1 hb).1
  have hb2 : (w.alloc (.cells (feC y).toArray 33)).heap[b]? = some o := (Below.heap_alloc _ _ _ hlt).trans hb
  exact (h2.block b (by simp; omega) (fun e => by
    obtain ⟨cur, hc⟩ := own_block_is hO b e.symm
    rw [hb2] at hc
    injection hc with hc
    exact hT _ _ hc)).trans hb2

/-- the dumper: its box, its list and the nodes that it has seen -/
structure DA (w : World) (B d sm : Nat) (nb : Nat → Nat) (n : Nat) (st : DS) : Prop where
  box : ∃ v, w.heap[d]? = some (.cells #[v, .map (some sm)] 78 (0, 0)) ∧ OwnF B v st.1 w
  seen : MapAt w sm (pL (st.2.map fun p => (nb p.1, Value.string p.2)))
  bd : B ≤ d
  bs : B ≤ sm
  sl : ∀ p ∈ st.2, p.1 < n
theorem DA.keep {w w' : World} {B d sm n : Nat} {nb : Nat → Nat} {st : DS} (h : DA w B d sm nb n st) (hb : Below w.heap.size w w') : DA w' B d sm nb n st := by
  obtain ⟨⟨v, h1, h2⟩, h3, h4, h5, h6⟩ := h
  exact ⟨⟨v, (hb.block d (Array.getElem?_eq_some_iff.1 h1).1).trans h1, h2.keep hb⟩, h3.keep hb, h4, h5, h6⟩
/-- what a node's text is among those that were seen -/
theorem getP_seen (nb : Nat → Nat) (n : Nat) (hinj : ∀ i j, i < n → j < n → nb i = nb j → i = j) : ∀ (l : List (Nat × ByteArray)) (_ : ∀ p ∈ l, p.1 < n) (i : Nat), i < n → getP (l.map fun p => (nb p.1, Value.string p.2)) (nb i) = (seenD l i).map Value.string
  | [], _, _, _ => rfl
  | p :: l, hl, i, hi => by
    rw [List.map_cons, getP, seenD]
    by_cases h : p.1 = i
    · rw [if_pos h, if_pos (by rw [h])]; rfl
    · rw [if_neg h, if_neg (fun e => h (hinj _ _ (hl p List.mem_cons_self) hi e))]
      exact getP_seen nb n hinj l (fun q hq => hl q (List.mem_cons_of_mem _ hq)) i hi
theorem TM.inj {w : World} {s : TS} {t mn : Nat} {nb eb : Nat → Nat} {ch : Int} {vb vo vc : Nat} (h : TM w s t mn nb eb ch vb vo vc) (i j : Nat) (hi : i < s.nds.length) (hj : j < s.nds.length) (e : nb i = nb j) : i = j := by
  have h1 := (h.node i hi).cells.1
  have h2 := (h.node j hj).cells.1
  rw [e, h2] at h1
  simp at h1
  omega
/-- nothing but a dumper's own blocks is changed -/
def KeepD (d sm : Nat) (w w' : World) : Prop := w.heap.size ≤ w'.heap.size ∧ ∀ (b : Nat) (o : Obj), w.heap[b]? = some o → (∀ cs fr, o ≠ .cells cs 33 fr) → b ≠ d → b ≠ sm → w'.heap[b]? = some o
theorem KeepD.refl (d sm : Nat) (w : World) : KeepD d sm w w := ⟨Nat.le_refl _, fun _ _ h _ _ _ => h⟩
theorem KeepD.trans {d sm : Nat} {w w1 w2 : World} (h : KeepD d sm w w1) (h2 : KeepD d sm w1 w2) : KeepD d sm w w2 := ⟨Nat.le_trans h.1 h2.1, fun b o hb ho h3 h4 => h2.2 b o (h.2 b o hb ho h3 h4) ho h3 h4⟩
theorem KeepD.below {d sm : Nat} {w w1 w2 : World} (h : KeepD d sm w w1) (h2 : Below w1.heap.size w1 w2) : KeepD d sm w w2 := ⟨Nat.le_trans h.1 h2.size, fun b o hb ho h3 h4 => by
  have h5 := h.2 b o hb ho h3 h4
  exact (h2.block b (Array.getElem?_eq_some_iff.1 h5).1).trans h5⟩
theorem KeepD.names {d sm : Nat} {w w' : World} {v : Value} {l : List ByteArray} (h : KeepD d sm w w') {x : Value} {T : TypeId} (hT : T ≠ 9) (hd : w.heap[d]? = some (.cells #[x, .map (some sm)] T (0, 0))) {es : Array MapEntry} {c : Nat} (hs : w.heap[sm]? = some (.map es c)) (hn : NamesAt w v l) : NamesAt w' v l :=
  hn.stay fun b cs hb => h.2 b _ hb (fun cs2 fr e => by injection e with _ e2; cases e2) (fun e => by
    subst e
    rw [hd] at hb
    injection hb with hb
    injection hb with _ hb
    exact hT hb) (fun e => by
    subst e
    rw [hs] at hb
    injection hb with hb
    cases hb)
end Go.Proofs.YtclhdppepopgeaaGreatDoor
