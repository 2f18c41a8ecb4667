/- A region that draws its order, whose last operations come in one order behind all others: what reads cells that none of the others writes may be taken first. Laws on regions alone; no program in sight. -/
import Derived.OrdersHeld
import Derived.StillTail
import Derived.Laws.AppendOwn
import Derived.Maps.AppendAt
import Derived.WalkKit
import Derived.Great.BuildSlice
namespace Go.Proofs.YtokmiommhfbkeaaGreatDoor
open Go

section
variable {P : Program} {ops : Array Oper} {Q : Exit → Act → World → Prop} {md : Region.Mode} {S : World → Prop} {K : Act → World → Prop} {n g : Nat}

/-- each of the first n operations but number e is waited for, through others, by number n -/
def sinkE (md : Region.Mode) (ops : Array Oper) (n e : Nat) : Bool :=
  (List.range n).all fun i => i == e || (List.range (n + 1)).any fun j => decide (i < j) && (j != e) && Region.waitsFor md ops j i

theorem tail_waitsE {e : Nat} {listed : Array Bool} (hs : sinkE md ops n e = true) (hc : Region.chainB md ops n = true) (hn : n < ops.size) (inv : HeadInv md ops n listed) :
    ∀ (d i : Nat), n - i = d → i < n → i ≠ e → listed.getD i true = false → ∀ t, n ≤ t → t ∉ Region.ready md ops listed := by
  intro d
  induction d using Nat.strongRecOn with
  | _ d ih =>
    intro i hd hi hie hun t ht hr
    obtain ⟨_, ot, hot, hall⟩ := mem_ready.1 hr
    have htlt : t < ops.size := (Array.getElem?_eq_some_iff.1 hot).1
    by_cases htn : t = n
    · subst htn
      have h1 := List.all_eq_true.1 hs i (List.mem_range.2 hi)
      simp only [Bool.or_eq_true, beq_iff_eq, hie, false_or] at h1
      obtain ⟨j, hj, hj2⟩ := List.any_eq_true.1 h1
      simp only [Bool.and_eq_true, decide_eq_true_eq, bne_iff_ne] at hj2
      obtain ⟨oj, hoj, e', he, hb, hon⟩ := Region.waitsFor_spec hj2.2
      have hjle : j ≤ t := by have := List.mem_range.1 hj; omega
      by_cases hjt : j = t
      · subst hjt
        have : oj = ot := Option.some.inj (hoj.symm.trans hot)
        subst this
        have h2 := hall e' he hb
        rw [hon, getD_both hun] at h2
        cases h2
      · cases hl : listed.getD j false with
        | true =>
          have h2 := inv.closed j oj hoj hl e' he hb
          rw [hon, getD_both hun] at h2
          cases h2
        | false =>
          have hjs : j < listed.size := by rw [inv.size]; omega
          exact ih (t - j) (by omega) j rfl (by omega) hj2.1.2 (getD_in hjs hl) t (Nat.le_refl _) hr
    · have h1 := List.all_eq_true.1 hc t (List.mem_range.2 htlt)
      simp only [Bool.or_eq_true, decide_eq_true_eq] at h1
      rcases h1 with h1 | h1
      · omega
      · obtain ⟨o', ho', e', he, hb, hon⟩ := Region.waitsFor_spec h1
        have : o' = ot := Option.some.inj (ho'.symm.trans hot)
        subst this
        have h2 := hall e' he hb
        rw [hon, getD_both (inv.tail (t - 1) (by omega) (by omega))] at h2
        cases h2

/-- whatever order is picked of the first n operations, S holds behind each; then the tail comes in its one order -/
def wpAnyT (P : Program) (md : Region.Mode) (ops : Array Oper) (Q : Exit → Act → World → Prop) (S : World → Prop) (n g : Nat) (K : Act → World → Prop) : Nat → Array Bool → Act → World → Prop
  | 0, listed, a, w => Region.seqB md ops g n listed = true ∧ K a w
  | f + 1, listed, a, w =>
    Region.ready md ops listed ≠ [] ∧ ∀ i ∈ Region.ready md ops listed, i < n ∧ wpOp P ops Q i (fun a' w' => S w' ∧ wpAnyT P md ops Q S n g K f (listed.setIfInBounds i true) a' w') a w

theorem wpAny_of_T (hK : ∀ listed a w, Region.seqB md ops g n listed = true → K a w → wpAny P md ops Q g listed a w) :
    ∀ (f : Nat) (listed : Array Bool) (a : Act) (w : World), wpAnyT P md ops Q S n g K f listed a w → wpAny P md ops Q (f + g) listed a w
  | 0, listed, a, w, h => by rw [Nat.zero_add]; exact hK _ _ _ h.1 h.2
  | f + 1, listed, a, w, h => by
    rw [show f + 1 + g = (f + g) + 1 by omega]
    exact ⟨fun h0 => absurd h0 h.1, fun i hi => wpOp_mono (fun a' w' h' => wpAny_of_T hK f _ a' w' h'.2) (h.2 i hi).2⟩

theorem wpAnyT_first {e i : Nat} {oi : Oper} {v : Value} (hi : ops[i]? = some oi) (hsel : ∀ (j : Nat) (o : Oper) cs b, ops[j]? = some o → o.op ≠ .select cs b)
    (hs : sinkE md ops n e = true) (hc : Region.chainB md ops n = true) (hn : n < ops.size) (hin : i < n) (hie : i ≠ e)
    (hQ : ∀ c a w, Q (.panic c) (a.put oi.dst v) w → Q (.panic c) a w) :
    ∀ (f : Nat) (listed : Array Bool) (a : Act) (w : World), HeadInv md ops n listed →
      (∀ j oj, ops[j]? = some oj → j ≠ i → listed.getD j true = false → (∀ e ∈ oj.after, Region.binds md e = true → e.on ≠ i) → oi.apart ops oj = true) →
      i ∈ Region.ready md ops listed → YieldsIf P ops S oi v a → S w →
      wpAnyT P md ops Q S n g K f (listed.setIfInBounds i true) (a.put oi.dst v) w → wpAnyT P md ops Q S n g K (f + 1) listed a w := by
  intro f
  induction f with
  | zero =>
    intro listed a w inv _ hr hy hS H
    have hun := (mem_ready.1 hr).1
    refine ⟨fun h => (by rw [h] at hr; cases hr), fun j hj => ?_⟩
    have hjn : j < n := by
      rcases Nat.lt_or_ge j n with h | h
      · exact h
      · exact absurd hj (tail_waitsE hs hc hn inv _ i rfl hin hie hun j h)
    refine ⟨hjn, ?_⟩
    by_cases hji : j = i
    · subst hji; exact hy.wpOp hi hS ⟨hS, H⟩
    · have := seqB_ready H.1 j (ready_mono hj hji)
      omega
  | succ f ih =>
    intro listed a w inv hfree hr hy hS H
    have hun := (mem_ready.1 hr).1
    refine ⟨fun h => (by rw [h] at hr; cases hr), fun j hj => ?_⟩
    have hjn : j < n := by
      rcases Nat.lt_or_ge j n with h | h
      · exact h
      · exact absurd hj (tail_waitsE hs hc hn inv _ i rfl hin hie hun j h)
    refine ⟨hjn, ?_⟩
    by_cases hji : j = i
    · subst hji; exact hy.wpOp hi hS ⟨hS, H⟩
    · have h1 := (H.2 j (ready_mono hj hji)).2
      obtain ⟨hjun, oj, hoj, hall⟩ := mem_ready.1 hj
      have hnot : ∀ e ∈ oj.after, Region.binds md e = true → e.on ≠ i := fun e he hb heq => by
        have h1 := hall e he hb
        rw [heq, getD_both hun] at h1
        cases h1
      have h2 := wpOp_putIf hoj (hfree j oj hoj hji hjun hnot) (fun cs b => hsel i oi cs b hi) (fun cs b => hsel j oj cs b hoj) hQ hy h1
      have hfree' : ∀ k ok, ops[k]? = some ok → k ≠ i → (listed.setIfInBounds j true).getD k true = false →
          (∀ e ∈ ok.after, Region.binds md e = true → e.on ≠ i) → oi.apart ops ok = true := fun k ok hk hki hun hno => by
        refine hfree k ok hk hki ?_ hno
        by_cases hjk : j = k
        · subst hjk; exact hjun
        · rw [getD_set_ne true hjk] at hun; exact hun
      refine wpOp_mono (fun a' w' h3 => ⟨h3.2.1, ih (listed.setIfInBounds j true) a' w' (inv.set hj hjn) hfree' (ready_mono hr (Ne.symm hji)) h3.1 h3.2.1 ?_⟩) h2
      rw [Array.setIfInBounds_comm _ _ hji]
      exact h3.2.2

/-- the Bools that a region must meet -/
def tailB (md : Region.Mode) (ops : Array Oper) (n e : Nat) : Bool :=
  Region.noSelect ops && decide (n < ops.size) && sinkE md ops n e && Region.chainB md ops n

/-- what is known of the operations that have come up -/
def headB (md : Region.Mode) (ops : Array Oper) (n : Nat) (listed : Array Bool) : Bool :=
  decide (listed.size = ops.size) &&
  ((List.range ops.size).all fun j => !listed.getD j false || match ops[j]? with
    | some oj => oj.after.all fun e => !Region.binds md e || listed.getD e.on false
    | none => true) &&
  ((List.range ops.size).all fun t => decide (t < n) || !listed.getD t true)

theorem headInv_of {listed : Array Bool} (h : headB md ops n listed = true) : HeadInv md ops n listed := by
  simp only [headB, Bool.and_eq_true, decide_eq_true_eq, List.all_eq_true, List.mem_range, Bool.or_eq_true, Bool.not_eq_true'] at h
  obtain ⟨⟨h1, h2⟩, h3⟩ := h
  refine ⟨h1, fun j oj hj hl e he hb => ?_, fun t ht ht' => ?_⟩
  · have := h2 j (Array.getElem?_eq_some_iff.1 hj).1
    rcases this with h | h
    · rw [hl] at h; cases h
    · simp only [hj, Array.all_eq_true'] at h
      have := h e he
      simpa [hb] using this
  · have := h3 t ht'
    rcases this with h | h
    · omega
    · exact h

/-- take number i first -/
theorem wpAnyT_take (e i : Nat) {oi : Oper} {v : Value} {f : Nat} {listed : Array Bool} {a : Act} {w : World} (ht : tailB md ops n e = true) (hi : ops[i]? = some oi)
    (hB : (decide (i < n) && (i != e) && headB md ops n listed && Region.free md ops listed i && (Region.ready md ops listed).contains i) = true)
    (hQ : ∀ c a w, Q (.panic c) (a.put oi.dst v) w → Q (.panic c) a w) (hy : YieldsIf P ops S oi v a) (hS : S w)
    (h : wpAnyT P md ops Q S n g K f (listed.setIfInBounds i true) (a.put oi.dst v) w) : wpAnyT P md ops Q S n g K (f + 1) listed a w := by
  simp only [tailB, Bool.and_eq_true, decide_eq_true_eq, bne_iff_ne] at ht hB
  obtain ⟨⟨⟨hsel, hn⟩, hs⟩, hc⟩ := ht
  obtain ⟨⟨⟨⟨hin, hie⟩, hh⟩, hf⟩, hr⟩ := hB
  exact wpAnyT_first hi (Region.noSelect_spec hsel) hs hc hn hin hie hQ f listed a w (headInv_of hh) (Region.free_spec hi hf) (by simpa using hr) hy hS h

theorem wpAnyT_one (i : Nat) {f : Nat} {listed : Array Bool} {a : Act} {w : World} (hr : Region.ready md ops listed = [i]) (hin : i < n)
    (h : wpOp P ops Q i (fun a' w' => S w' ∧ wpAnyT P md ops Q S n g K f (listed.setIfInBounds i true) a' w') a w) : wpAnyT P md ops Q S n g K (f + 1) listed a w :=
  ⟨fun h0 => (by rw [hr] at h0; cases h0), fun j hj => by
    rw [hr] at hj
    obtain rfl : j = i := by simpa using hj
    exact ⟨hin, h⟩⟩
theorem wpAnyT_two (i k : Nat) {f : Nat} {listed : Array Bool} {a : Act} {w : World} (hr : Region.ready md ops listed = [i, k]) (hin : i < n) (hkn : k < n)
    (h1 : wpOp P ops Q i (fun a' w' => S w' ∧ wpAnyT P md ops Q S n g K f (listed.setIfInBounds i true) a' w') a w)
    (h2 : wpOp P ops Q k (fun a' w' => S w' ∧ wpAnyT P md ops Q S n g K f (listed.setIfInBounds k true) a' w') a w) : wpAnyT P md ops Q S n g K (f + 1) listed a w :=
  ⟨fun h0 => (by rw [hr] at h0; cases h0), fun j hj => by
    rw [hr] at hj
    rcases List.mem_cons.1 hj with rfl | hj
    · exact ⟨hin, h1⟩
    · obtain rfl : j = k := by simpa using hj
      exact ⟨hkn, h2⟩⟩

/-- the beginning: m operations of the head have not come up -/
theorem wpAny_tail {a : Act} {w : World} {l : List Oper} {listed : Array Bool} (n m : Nat) (S : World → Prop)
    (h : wpAnyT P .any l.toArray Q S n (l.length - n) (fun a' w' => wpList P l.toArray Q (l.drop n) a' w') m listed a w) : wpAny P .any l.toArray Q (m + (l.length - n)) listed a w :=
  wpAny_of_T (fun listed a' w' hL hK => by
    have := wpAny_of_seq (md := .any) (Q' := Q) (l.drop n) n listed a' w' (fun j => by simp [List.getElem?_drop]) (by rw [List.length_drop]; exact hL) hK
    rwa [List.length_drop] at this) _ _ _ _ h
theorem wp_region_tail {id : Nat} {a : Act} {w : World} {l : List Oper} (n : Nat) (S : World → Prop) (hm : P.follows .mixedOrders = true) (hn : n ≤ l.length)
    (h : wpAnyT P .any l.toArray Q S n (l.length - n) (fun a' w' => wpList P l.toArray Q (l.drop n) a' w') n (Array.replicate l.length false) a w.drew) : (Code.region id l.toArray true).wp P Q a w := by
  refine wp_region_any hm ?_
  have := wpAny_tail n n S h
  rw [show n + (l.length - n) = l.toArray.size by simp; omega] at this
  simpa using this

/-- what stands where two rows of the call's own were appended to -/
structure Two (w0 : World) (r1 r2 : Option Nat) (w : World) : Prop where
  os : w.os = w0.os
  tape : w.tape = w0.tape
  output : w.output = w0.output
  size : w0.heap.size ≤ w.heap.size
  block : ∀ k, k < w0.heap.size → some k ≠ r1 → some k ≠ r2 → w.heap[k]? = w0.heap[k]?

theorem Two.refl (w : World) (r1 r2 : Option Nat) : Two w r1 r2 w := ⟨rfl, rfl, rfl, Nat.le_refl _, fun _ _ _ _ => rfl⟩
theorem Two.grown {w0 w w' : World} {r1 r2 r : Option Nat} (h : Two w0 r1 r2 w) (hg : w.grownBy w' r) (hr : r = none ∨ r = r1 ∨ r = r2 ∨ ∃ k, r = some k ∧ w0.heap.size ≤ k) : Two w0 r1 r2 w' :=
  ⟨hg.os.trans h.os, hg.tape.trans h.tape, hg.output.trans h.output, Nat.le_trans h.size hg.size, fun k hk h1 h2 => (hg.block k (Nat.lt_of_lt_of_le hk h.size) (by
    rcases hr with rfl | rfl | rfl | ⟨j, rfl, hj⟩
    · simp
    · exact h1
    · exact h2
    · simp; omega)).trans (h.block k hk h1 h2)⟩
theorem Two.alloc {w0 w : World} {r1 r2 : Option Nat} (h : Two w0 r1 r2 w) (o : Obj) : Two w0 r1 r2 (w.alloc o) := h.grown (World.grownBy_alloc w o none) (.inl rfl)

/-- rows of cells of two types are apart -/
theorem own_ne {w : World} {B B' e e' s s' n n' : Nat} {v u : Value} {xs ys : List Value} (h : w.ownsRow B e s v n xs) (k : w.ownsRow B' e' s' u n' ys) (hne : e ≠ e') : v.ownBlock = none ∨ v.ownBlock ≠ u.ownBlock := by
  rcases h.2 with ⟨rfl, _⟩ | ⟨g, c, cur, rfl, _, hg, _⟩
  · exact .inl rfl
  · rcases k.2 with ⟨rfl, _⟩ | ⟨g', c', cur', rfl, _, hg', _⟩
    · exact .inr (by simp [Value.ownBlock])
    · refine .inr fun hh => hne ?_
      have : g = g' := by simpa [Value.ownBlock] using hh
      subst this
      rw [hg] at hg'
      simpa using congrArg (fun o => match o with | some (Obj.cells _ t _) => t | _ => 0) hg'
theorem buf_ne {w : World} {B e e' s n k : Nat} {v : Value} {xs : List Value} {cs : Array Value} {fz : Nat × Nat} (h : w.ownsRow B e s v n xs) (hk : w.heap[k]? = some (.cells cs e' fz)) (hne : e ≠ e') : some k ≠ v.ownBlock := by
  rcases h.2 with ⟨rfl, _⟩ | ⟨g, c, cur, rfl, _, hg, _⟩
  · simp [Value.ownBlock]
  · intro hh
    have : k = g := by simpa [Value.ownBlock] using hh
    subst this
    rw [hk] at hg
    exact hne (by simpa using (congrArg (fun o => match o with | some (Obj.cells _ t _) => t | _ => 0) hg).symm)

/-- one of the two: 's = append(s, x)', the one value laid in a block of its own first -/
structure OneAppend (P : Program) (ops : Array Oper) (ib ia : Nat) (ts tx tb ta : Tmp) (T e : TypeId) (ob oa : Oper) (i : TypeInfo) (z : Value) (bytes : Nat) : Prop where
  hb : ops[ib]? = some ob
  ha : ops[ia]? = some oa
  gb : ob.guard = none
  ga : oa.guard = none
  db : ob.dst = some tb
  da : oa.dst = some ta
  opb : ob.op = .buildSlice T 1 #[(0, .tmp tx)]
  opa : oa.op = .call { callee := .builtin .append, args := #[.tmp ts, .tmp tb], argTypes := #[T, T] }
  ht : P.underlying T = some (.slice e)
  hi : P.info? e = some i
  hz : i.zero = some z
  hs : i.size = 1
  hby : i.bytes = bytes
  hzs : z.cells.size = 1

theorem OneAppend.build {ib ia : Nat} {ts tx tb ta : Tmp} {T e : TypeId} {ob oa : Oper} {i : TypeInfo} {z : Value} {bytes : Nat} (c : OneAppend P ops ib ia ts tx tb ta T e ob oa i z bytes) {a : Act} {w : World} {x : Value}
    (hx : a.eval (.tmp tx) = x) (hxc : x.cells = #[x]) (h : K (a.put (some tb) (.slice (some ⟨w.heap.size, 0, none⟩) 1 1)) (w.alloc (.cells #[x] e))) : wpOp P ops Q ib K a w := by
  unfold wpOp
  simp only [c.hb]
  rw [if_pos (by simp [Region.wanted, c.gb])]
  left
  refine wp_buildSlice T e 1 #[(0, .tmp tx)] c.opb #[x] i z c.ht c.hi c.hz (by rw [c.hs]; decide) (by rw [c.hs]; decide) ?_ (by rw [c.db]; exact h)
  rw [c.hs]
  simp [Instr.fill, hx, hxc, show Array.range 1 = #[0] from rfl]

theorem OneAppend.append {ib ia : Nat} {ts tx tb ta : Tmp} {T e : TypeId} {ob oa : Oper} {i : TypeInfo} {z : Value} {bytes : Nat} (c : OneAppend P ops ib ia ts tx tb ta T e ob oa i z bytes) {a : Act} {w : World} {v x : Value} {B n k : Nat} {xs : List Value}
    (hv : a.eval (.tmp ts) = v) (hb : a.eval (.tmp tb) = .slice (some ⟨k, 0, none⟩) 1 1) (hown : w.ownsRow B e 1 v n xs) (hk : w.heap[k]? = some (.cells #[x] e (0, 0))) (hx1 : x.oneCell' = true)
    (h63 : n + 1 ≤ maxLen) (hbytes : (n + 1) * bytes ≤ 140737488355328) (hB : B ≤ w.heap.size)
    (h : ∀ v' w', w'.ownsRow B e 1 v' (n + 1) (xs ++ [x]) → w.grownBy w' v.ownBlock → (v'.ownBlock = v.ownBlock ∨ v'.ownBlock = some w.heap.size) → K (a.put (some ta) v') w') : wpOp P ops Q ia K a w := by
  obtain ⟨v', w', hr, h2, h3, _, h5⟩ := run_append_own_at (P := P) w B T oa.type e i z 1 bytes c.ht c.hi c.hz c.hs c.hby c.hzs (by decide) v n xs hown ⟨k, 0, none⟩ 1 1 [x] rfl (fun j u hj => by
    match j, hj with
    | 0, hj =>
      simp at hj
      subst hj
      simp [World.cell?, hk, Addr.add]
    | j + 1, hj => simp at hj) (fun u hu => by simp at hu; subst hu; exact hx1) h63 hbytes hB
  unfold wpOp
  simp only [c.ha]
  rw [if_pos (by simp [Region.wanted, c.ga])]
  left
  unfold Oper.wp execOp
  simp only [c.opa, resolve, invoke, builtin, Sem.run_bind, Sem.run_pure, Result.andThen_ok, List.map_toArray, List.map_cons, List.map_nil, hv, hb, hr, Oper.upon_value, c.da]
  exact h v' w' h2 h3 h5
theorem lt_some {w : World} {k : Nat} {o : Obj} (h : w.heap[k]? = some o) : k < w.heap.size := (Array.getElem?_eq_some_iff.1 h).1

/-- the orders in which two such pairs may come (the second append waits for the first) -/
def pairsB (md : Region.Mode) (ops : Array Oper) (n g i1 i2 i3 i4 : Nat) (L : Array Bool) : Bool :=
  let s := fun (L : Array Bool) (i : Nat) => L.setIfInBounds i true
  let r := fun (L : Array Bool) (l : List Nat) => decide (Region.ready md ops L = l)
  decide (i1 < n) && decide (i2 < n) && decide (i3 < n) && decide (i4 < n) && r L [i1, i3] && r (s L i1) [i2, i3] && r (s L i3) [i1] &&
  r (s (s L i1) i2) [i3] && r (s (s L i1) i3) [i2] && r (s (s L i3) i1) [i2] &&
  r (s (s (s L i1) i2) i3) [i4] && r (s (s (s L i1) i3) i2) [i4] && r (s (s (s L i3) i1) i2) [i4] &&
  Region.seqB md ops g n (s (s (s (s L i1) i2) i3) i4) && Region.seqB md ops g n (s (s (s (s L i1) i3) i2) i4) && Region.seqB md ops g n (s (s (s (s L i3) i1) i2) i4)

theorem put_swap (a : Act) {x y : Tmp} (v u : Value) (h : x ≠ y) : (a.put (some x) v).put (some y) u = (a.put (some y) u).put (some x) v :=
  Act.put_comm a v u (fun d hd hy => h (by cases hd; cases hy; rfl))
theorem eval_other (a : Act) {x y : Tmp} (v : Value) (h : x ≠ y) : (a.put (some x) v).eval (.tmp y) = a.eval (.tmp y) :=
  Act.eval_put (fun d hd e => by cases hd; cases e; exact h rfl)
theorem eval_own (a : Act) {x : Tmp} (v : Value) (h : x < a.tmps.size) : (a.put (some x) v).eval (.tmp x) = v := by
  simp [Act.eval, Act.put, h]
theorem put_size (a : Act) (x : Option Tmp) (v : Value) : (a.put x v).tmps.size = a.tmps.size := by
  cases x <;> simp [Act.put]

/-- 's1, s2 = append(s1, x1), append(s2, x2)' in whatever order -/
theorem two_appends {i1 i2 i3 i4 : Nat} {s1 x1 d1 e1 s2 x2 d2 e2 : Tmp} {T1 E1 T2 E2 : TypeId} {o1 o2 o3 o4 : Oper} {j1 j2 : TypeInfo} {z1 z2 : Value} {b1 b2 : Nat} {B n1 n2 : Nat} {v1 v2 y1 y2 : Value} {xs1 xs2 : List Value} {L : Array Bool} {a : Act} {w : World}
    (c1 : OneAppend P ops i1 i2 s1 x1 d1 e1 T1 E1 o1 o2 j1 z1 b1) (c2 : OneAppend P ops i3 i4 s2 x2 d2 e2 T2 E2 o3 o4 j2 z2 b2) (hne : E1 ≠ E2)
    (hord : pairsB md ops n g i1 i2 i3 i4 L = true)
    (hds : [s1, x1, d1, e1, s2, x2, d2, e2].Nodup) (hlt : d1 < a.tmps.size ∧ d2 < a.tmps.size)
    (q1 : a.eval (.tmp s1) = v1) (q2 : a.eval (.tmp x1) = y1) (q3 : a.eval (.tmp s2) = v2) (q4 : a.eval (.tmp x2) = y2)
    (hy1 : y1.cells = #[y1] ∧ y1.oneCell' = true) (hy2 : y2.cells = #[y2] ∧ y2.oneCell' = true)
    (o1 : w.ownsRow B E1 1 v1 n1 xs1) (o2 : w.ownsRow B E2 1 v2 n2 xs2) (hB : B ≤ w.heap.size)
    (m1 : n1 + 1 ≤ maxLen) (m2 : n2 + 1 ≤ maxLen) (k1 : (n1 + 1) * b1 ≤ 140737488355328) (k2 : (n2 + 1) * b2 ≤ 140737488355328)
    (h : ∀ u1 u2 v1' v2' w', Two w v1.ownBlock v2.ownBlock w' → w'.ownsRow B E1 1 v1' (n1 + 1) (xs1 ++ [y1]) → w'.ownsRow B E2 1 v2' (n2 + 1) (xs2 ++ [y2]) →
      (v1'.ownBlock = v1.ownBlock ∨ ∃ k, v1'.ownBlock = some k ∧ w.heap.size ≤ k) → (v2'.ownBlock = v2.ownBlock ∨ ∃ k, v2'.ownBlock = some k ∧ w.heap.size ≤ k) →
      K ((((a.put (some d1) u1).put (some e1) v1').put (some d2) u2).put (some e2) v2') w') :
    wpAnyT P md ops Q (Two w v1.ownBlock v2.ownBlock) n g K 4 L a w := by
  simp only [List.nodup_cons, List.mem_cons, List.not_mem_nil, or_false, not_or] at hds
  obtain ⟨⟨n12, n13, n14, n15, n16, n17, n18⟩, ⟨n23, n24, n25, n26, n27, n28⟩, ⟨n34, n35, n36, n37, n38⟩, ⟨n45, n46, n47, n48⟩, ⟨n56, n57, n58⟩, ⟨n67, n68⟩, n78, _⟩ := hds
  simp only [pairsB, Bool.and_eq_true, decide_eq_true_eq] at hord
  obtain ⟨⟨⟨⟨⟨⟨⟨⟨⟨⟨⟨⟨⟨⟨⟨l1, l2⟩, l3⟩, l4⟩, r0⟩, r1⟩, r3⟩, r12⟩, r13⟩, r31⟩, r123⟩, r132⟩, r312⟩, t1⟩, t2⟩, t3⟩ := hord
  have S0 := Two.refl w v1.ownBlock v2.ownBlock
  refine wpAnyT_two i1 i3 r0 l1 l3 ?_ ?_
  · refine c1.build (x := y1) q2 hy1.1 ⟨S0.alloc _, ?_⟩
    have b1_1 : (w.alloc (.cells #[y1] E1)).heap[w.heap.size]? = some (.cells #[y1] E1 (0, 0)) := heap_alloc_new w _
    have p1_1 := o1.alloc (.cells #[y1] E1)
    have p2_1 := o2.alloc (.cells #[y1] E1)
    have t_1 := S0.alloc (.cells #[y1] E1)
    have hb_1 : B ≤ (w.alloc (.cells #[y1] E1)).heap.size := by have := hB; simp; omega
    generalize hu1 : w.heap.size = u1 at b1_1 ⊢
    generalize w.alloc (.cells #[y1] E1) = W1 at *
    refine wpAnyT_two i2 i3 r1 l2 l3 ?_ ?_
    · refine c1.append ((eval_other _ _ (Ne.symm n13)).trans q1) (eval_own _ _ (by simpa only [put_size] using hlt.1)) p1_1 b1_1 hy1.2 m1 k1 hb_1 ?_
      intro v1' W2 g1_2 g2_2 g3_2
      have t_2 := t_1.grown g2_2 (.inr (.inl rfl))
      refine ⟨t_2, ?_⟩
      have p2_2 := p2_1.kept g2_2 (own_ne p2_1 p1_1 hne.symm)
      have hb_2 : B ≤ W2.heap.size := Nat.le_trans hb_1 g2_2.size
      have f1 : v1'.ownBlock = v1.ownBlock ∨ ∃ k, v1'.ownBlock = some k ∧ w.heap.size ≤ k := g3_2.imp id fun hk => ⟨_, hk, t_1.size⟩
      refine wpAnyT_one i3 r12 l3 ?_
      refine c2.build (x := y2) ((eval_other _ _ n46).trans ((eval_other _ _ n36).trans q4)) hy2.1 ⟨t_2.alloc _, ?_⟩
      have b2_3 : (W2.alloc (.cells #[y2] E2)).heap[W2.heap.size]? = some (.cells #[y2] E2 (0, 0)) := heap_alloc_new W2 _
      have p1_3 := g1_2.alloc (.cells #[y2] E2)
      have p2_3 := p2_2.alloc (.cells #[y2] E2)
      have t_3 := t_2.alloc (.cells #[y2] E2)
      have hb_3 : B ≤ (W2.alloc (.cells #[y2] E2)).heap.size := by have := hb_2; simp; omega
      generalize hu2 : W2.heap.size = u2 at b2_3 ⊢
      generalize W2.alloc (.cells #[y2] E2) = W3 at *
      refine wpAnyT_one i4 r123 l4 ?_
      refine c2.append ((eval_other _ _ (Ne.symm n57)).trans ((eval_other _ _ n45).trans ((eval_other _ _ n35).trans q3))) (eval_own _ _ (by simpa only [put_size] using hlt.2)) p2_3 b2_3 hy2.2 m2 k2 hb_3 ?_
      intro v2' W4 g1_4 g2_4 g3_4
      have t_4 := t_3.grown g2_4 (.inr (.inr (.inl rfl)))
      refine ⟨t_4, ?_⟩
      have p1_4 := p1_3.kept g2_4 (own_ne p1_3 p2_3 hne)
      have hb_4 : B ≤ W4.heap.size := Nat.le_trans hb_3 g2_4.size
      have f2 : v2'.ownBlock = v2.ownBlock ∨ ∃ k, v2'.ownBlock = some k ∧ w.heap.size ≤ k := g3_4.imp id fun hk => ⟨_, hk, t_3.size⟩
      refine ⟨t1, ?_⟩
      exact h _ _ _ _ _ t_4 p1_4 g1_4 f1 f2
    · refine c2.build (x := y2) ((eval_other _ _ n36).trans q4) hy2.1 ⟨t_1.alloc _, ?_⟩
      have b2_2 : (W1.alloc (.cells #[y2] E2)).heap[W1.heap.size]? = some (.cells #[y2] E2 (0, 0)) := heap_alloc_new W1 _
      have p1_2 := p1_1.alloc (.cells #[y2] E2)
      have p2_2 := p2_1.alloc (.cells #[y2] E2)
      have b1_2 := (heap_alloc_old W1 (.cells #[y2] E2) (lt_some b1_1)).trans b1_1
      have t_2 := t_1.alloc (.cells #[y2] E2)
      have hb_2 : B ≤ (W1.alloc (.cells #[y2] E2)).heap.size := by have := hb_1; simp; omega
      generalize hu2 : W1.heap.size = u2 at b2_2 ⊢
      generalize W1.alloc (.cells #[y2] E2) = W2 at *
      refine wpAnyT_one i2 r13 l2 ?_
      refine c1.append ((eval_other _ _ (Ne.symm n17)).trans ((eval_other _ _ (Ne.symm n13)).trans q1)) ((eval_other _ _ (Ne.symm n37)).trans (eval_own _ _ (by simpa only [put_size] using hlt.1))) p1_2 b1_2 hy1.2 m1 k1 hb_2 ?_
      intro v1' W3 g1_3 g2_3 g3_3
      have t_3 := t_2.grown g2_3 (.inr (.inl rfl))
      refine ⟨t_3, ?_⟩
      have p2_3 := p2_2.kept g2_3 (own_ne p2_2 p1_2 hne.symm)
      have b2_3 := (g2_3.block _ (lt_some b2_2) (buf_ne p1_2 b2_2 hne)).trans b2_2
      have hb_3 : B ≤ W3.heap.size := Nat.le_trans hb_2 g2_3.size
      have f1 : v1'.ownBlock = v1.ownBlock ∨ ∃ k, v1'.ownBlock = some k ∧ w.heap.size ≤ k := g3_3.imp id fun hk => ⟨_, hk, t_2.size⟩
      refine wpAnyT_one i4 r132 l4 ?_
      refine c2.append ((eval_other _ _ n45).trans ((eval_other _ _ (Ne.symm n57)).trans ((eval_other _ _ n35).trans q3))) ((eval_other _ _ n47).trans (eval_own _ _ (by simpa only [put_size] using hlt.2))) p2_3 b2_3 hy2.2 m2 k2 hb_3 ?_
      intro v2' W4 g1_4 g2_4 g3_4
      have t_4 := t_3.grown g2_4 (.inr (.inr (.inl rfl)))
      refine ⟨t_4, ?_⟩
      have p1_4 := g1_3.kept g2_4 (own_ne g1_3 p2_3 hne)
      have hb_4 : B ≤ W4.heap.size := Nat.le_trans hb_3 g2_4.size
      have f2 : v2'.ownBlock = v2.ownBlock ∨ ∃ k, v2'.ownBlock = some k ∧ w.heap.size ≤ k := g3_4.imp id fun hk => ⟨_, hk, t_3.size⟩
      refine ⟨t2, ?_⟩
      rw [put_swap (x := d2) (y := e1) _ _ _ (Ne.symm n47)]
      exact h _ _ _ _ _ t_4 p1_4 g1_4 f1 f2
  · refine c2.build (x := y2) q4 hy2.1 ⟨S0.alloc _, ?_⟩
    have b2_1 : (w.alloc (.cells #[y2] E2)).heap[w.heap.size]? = some (.cells #[y2] E2 (0, 0)) := heap_alloc_new w _
    have p1_1 := o1.alloc (.cells #[y2] E2)
    have p2_1 := o2.alloc (.cells #[y2] E2)
    have t_1 := S0.alloc (.cells #[y2] E2)
    have hb_1 : B ≤ (w.alloc (.cells #[y2] E2)).heap.size := by have := hB; simp; omega
    generalize hu2 : w.heap.size = u2 at b2_1 ⊢
    generalize w.alloc (.cells #[y2] E2) = W1 at *
    refine wpAnyT_one i1 r3 l1 ?_
    refine c1.build (x := y1) ((eval_other _ _ (Ne.symm n27)).trans q2) hy1.1 ⟨t_1.alloc _, ?_⟩
    have b1_2 : (W1.alloc (.cells #[y1] E1)).heap[W1.heap.size]? = some (.cells #[y1] E1 (0, 0)) := heap_alloc_new W1 _
    have p1_2 := p1_1.alloc (.cells #[y1] E1)
    have p2_2 := p2_1.alloc (.cells #[y1] E1)
    have b2_2 := (heap_alloc_old W1 (.cells #[y1] E1) (lt_some b2_1)).trans b2_1
    have t_2 := t_1.alloc (.cells #[y1] E1)
    have hb_2 : B ≤ (W1.alloc (.cells #[y1] E1)).heap.size := by have := hb_1; simp; omega
    generalize hu1 : W1.heap.size = u1 at b1_2 ⊢
    generalize W1.alloc (.cells #[y1] E1) = W2 at *
    refine wpAnyT_one i2 r31 l2 ?_
    refine c1.append ((eval_other _ _ (Ne.symm n13)).trans ((eval_other _ _ (Ne.symm n17)).trans q1)) (eval_own _ _ (by simpa only [put_size] using hlt.1)) p1_2 b1_2 hy1.2 m1 k1 hb_2 ?_
    intro v1' W3 g1_3 g2_3 g3_3
    have t_3 := t_2.grown g2_3 (.inr (.inl rfl))
    refine ⟨t_3, ?_⟩
    have p2_3 := p2_2.kept g2_3 (own_ne p2_2 p1_2 hne.symm)
    have b2_3 := (g2_3.block _ (lt_some b2_2) (buf_ne p1_2 b2_2 hne)).trans b2_2
    have hb_3 : B ≤ W3.heap.size := Nat.le_trans hb_2 g2_3.size
    have f1 : v1'.ownBlock = v1.ownBlock ∨ ∃ k, v1'.ownBlock = some k ∧ w.heap.size ≤ k := g3_3.imp id fun hk => ⟨_, hk, t_2.size⟩
    refine wpAnyT_one i4 r312 l4 ?_
    refine c2.append ((eval_other _ _ n45).trans ((eval_other _ _ n35).trans ((eval_other _ _ (Ne.symm n57)).trans q3))) ((eval_other _ _ n47).trans ((eval_other _ _ n37).trans (eval_own _ _ (by simpa only [put_size] using hlt.2)))) p2_3 b2_3 hy2.2 m2 k2 hb_3 ?_
    intro v2' W4 g1_4 g2_4 g3_4
    have t_4 := t_3.grown g2_4 (.inr (.inr (.inl rfl)))
    refine ⟨t_4, ?_⟩
    have p1_4 := g1_3.kept g2_4 (own_ne g1_3 p2_3 hne)
    have hb_4 : B ≤ W4.heap.size := Nat.le_trans hb_3 g2_4.size
    have f2 : v2'.ownBlock = v2.ownBlock ∨ ∃ k, v2'.ownBlock = some k ∧ w.heap.size ≤ k := g3_4.imp id fun hk => ⟨_, hk, t_3.size⟩
    refine ⟨t3, ?_⟩
    rw [put_swap (x := d2) (y := d1) _ _ _ (Ne.symm n37)]
    rw [put_swap (x := d2) (y := e1) _ _ _ (Ne.symm n47)]
    exact h _ _ _ _ _ t_4 p1_4 g1_4 f1 f2

end

end Go.Proofs.YtokmiommhfbkeaaGreatDoor
