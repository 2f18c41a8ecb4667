/- A region that draws its order, whose last operations come in one order behind all others: what reads cells that none of the others writes may be taken first. Laws on regions alone; no program in sight. (The first part of XHeld, and the step at an operation.) -/
import Derived.Lib.Hide
import Derived.OrdersHeld
import Derived.StillTail
import Derived.Laws.AppendOwn
import Derived.Maps.AppendAt
import Derived.WalkKit
import Derived.Great.BuildSlice
namespace Go.Proofs.YtclhdppepopgeaaGreatDoor
open Go Go.RowKit

section
variable {P : Program} {ops : Array Oper} {Q : Exit → Act → World → Prop} {md : Region.Mode} {S : World → Prop} {K : Act → World → Prop} {n g : Nat}

/-- each of the first n operations but number e is waited for, through others, by number n -/
def sinkE (md : Region.Mode) (ops : Array Oper) (n e : Nat) : Bool :=
  (List.range n).all fun i => i == e || (List.range (n + 1)).any fun j => decide (i < j) && (j != e) && Region.waitsFor md ops j i

theorem tail_waitsE {e : Nat} {listed : Array Bool} (hs : sinkE md ops n e = true) (hc : Region.chainB md ops n = true) (hn : n < ops.size) (inv : HeadInv md ops n listed) :
    ∀ (d i : Nat), n - i = d → i < n → i ≠ e → listed.getD i true = false → ∀ t, n ≤ t → t ∉ Region.ready md ops listed := by
  intro d
  induction d using Nat.strongRecOn with
  | _ d ih =>
    intro i hd hi hie hun t ht hr
    obtain ⟨_, ot, hot, hall⟩ := mem_ready.1 hr
    have htlt : t < ops.size := (Array.getElem?_eq_some_iff.1 hot).1
    by_cases htn : t = n
    · subst htn
      have h1 := List.all_eq_true.1 hs i (List.mem_range.2 hi)
      simp only [Bool.or_eq_true, beq_iff_eq, hie, false_or] at h1
      obtain ⟨j, hj, hj2⟩ := List.any_eq_true.1 h1
      simp only [Bool.and_eq_true, decide_eq_true_eq, bne_iff_ne] at hj2
      obtain ⟨oj, hoj, e', he, hb, hon⟩ := Region.waitsFor_spec hj2.2
      have hjle : j ≤ t := by have := List.mem_range.1 hj; omega
      by_cases hjt : j = t
      · subst hjt
        have : oj = ot := Option.some.inj (hoj.symm.trans hot)
        subst this
        have h2 := hall e' he hb
        rw [hon, getD_both hun] at h2
        cases h2
      · cases hl : listed.getD j false with
        | true =>
          have h2 := inv.closed j oj hoj hl e' he hb
          rw [hon, getD_both hun] at h2
          cases h2
        | false =>
          have hjs : j < listed.size := by rw [inv.size]; omega
          exact ih (t - j) (by omega) j rfl (by omega) hj2.1.2 (getD_in hjs hl) t (Nat.le_refl _) hr
    · have h1 := List.all_eq_true.1 hc t (List.mem_range.2 htlt)
      simp only [Bool.or_eq_true, decide_eq_true_eq] at h1
      rcases h1 with h1 | h1
      · omega
      · obtain ⟨o', ho', e', he, hb, hon⟩ := Region.waitsFor_spec h1
        have : o' = ot := Option.some.inj (ho'.symm.trans hot)
        subst this
        have h2 := hall e' he hb
        rw [hon, getD_both (inv.tail (t - 1) (by omega) (by omega))] at h2
        cases h2

/-- whatever order is picked of the first n operations, S holds behind each; then the tail comes in its one order -/
def wpAnyT (P : Program) (md : Region.Mode) (ops : Array Oper) (Q : Exit → Act → World → Prop) (S : World → Prop) (n g : Nat) (K : Act → World → Prop) : Nat → Array Bool → Act → World → Prop
  | 0, listed, a, w => Region.seqB md ops g n listed = true ∧ K a w
  | f + 1, listed, a, w =>
    Region.ready md ops listed ≠ [] ∧ ∀ i ∈ Region.ready md ops listed, i < n ∧ wpOp P ops Q i (fun a' w' => S w' ∧ wpAnyT P md ops Q S n g K f (listed.setIfInBounds i true) a' w') a w

theorem wpAny_of_T (hK : ∀ listed a w, Region.seqB md ops g n listed = true → K a w → wpAny P md ops Q g listed a w) :
    ∀ (f : Nat) (listed : Array Bool) (a : Act) (w : World), wpAnyT P md ops Q S n g K f listed a w → wpAny P md ops Q (f + g) listed a w
  | 0, listed, a, w, h => by rw [Nat.zero_add]; exact hK _ _ _ h.1 h.2
  | f + 1, listed, a, w, h => by
    rw [show f + 1 + g = (f + g) + 1 by omega]
    exact ⟨fun h0 => absurd h0 h.1, fun i hi => wpOp_mono (fun a' w' h' => wpAny_of_T hK f _ a' w' h'.2) (h.2 i hi).2⟩

theorem wpAnyT_first {e i : Nat} {oi : Oper} {v : Value} (hi : ops[i]? = some oi) (hsel : ∀ (j : Nat) (o : Oper) cs b, ops[j]? = some o → o.op ≠ .select cs b)
    (hs : sinkE md ops n e = true) (hc : Region.chainB md ops n = true) (hn : n < ops.size) (hin : i < n) (hie : i ≠ e)
    (hQ : ∀ c a w, Q (.panic c) (a.put oi.dst v) w → Q (.panic c) a w) :
    ∀ (f : Nat) (listed : Array Bool) (a : Act) (w : World), HeadInv md ops n listed →
      (∀ j oj, ops[j]? = some oj → j ≠ i → listed.getD j true = false → (∀ e ∈ oj.after, Region.binds md e = true → e.on ≠ i) → oi.apart ops oj = true) →
      i ∈ Region.ready md ops listed → YieldsIf P ops S oi v a → S w →
      wpAnyT P md ops Q S n g K f (listed.setIfInBounds i true) (a.put oi.dst v) w → wpAnyT P md ops Q S n g K (f + 1) listed a w := by
  intro f
  induction f with
  | zero =>
    intro listed a w inv _ hr hy hS H
    have hun := (mem_ready.1 hr).1
    refine ⟨fun h => (by rw [h] at hr; cases hr), fun j hj => ?_⟩
    have hjn : j < n := by
      rcases Nat.lt_or_ge j n with h | h
      · exact h
      · exact absurd hj (tail_waitsE hs hc hn inv _ i rfl hin hie hun j h)
    refine ⟨hjn, ?_⟩
    by_cases hji : j = i
    · subst hji; exact hy.wpOp hi hS ⟨hS, H⟩
    · have := seqB_ready H.1 j (ready_mono hj hji)
      omega
  | succ f ih =>
    intro listed a w inv hfree hr hy hS H
    have hun := (mem_ready.1 hr).1
    refine ⟨fun h => (by rw [h] at hr; cases hr), fun j hj => ?_⟩
    have hjn : j < n := by
      rcases Nat.lt_or_ge j n with h | h
      · exact h
      · exact absurd hj (tail_waitsE hs hc hn inv _ i rfl hin hie hun j h)
    refine ⟨hjn, ?_⟩
    by_cases hji : j = i
    · subst hji; exact hy.wpOp hi hS ⟨hS, H⟩
    · have h1 := (H.2 j (ready_mono hj hji)).2
      obtain ⟨hjun, oj, hoj, hall⟩ := mem_ready.1 hj
      have hnot : ∀ e ∈ oj.after, Region.binds md e = true → e.on ≠ i := fun e he hb heq => by
        have h1 := hall e he hb
        rw [heq, getD_both hun] at h1
        cases h1
      have h2 := wpOp_putIf hoj (hfree j oj hoj hji hjun hnot) (fun cs b => hsel i oi cs b hi) (fun cs b => hsel j oj cs b hoj) hQ hy h1
      have hfree' : ∀ k ok, ops[k]? = some ok → k ≠ i → (listed.setIfInBounds j true).getD k true = false →
          (∀ e ∈ ok.after, Region.binds md e = true → e.on ≠ i) → oi.apart ops ok = true := fun k ok hk hki hun hno => by
        refine hfree k ok hk hki ?_ hno
        by_cases hjk : j = k
        · subst hjk; exact hjun
        · rw [getD_set_ne true hjk] at hun; exact hun
      refine wpOp_mono (fun a' w' h3 => ⟨h3.2.1, ih (listed.setIfInBounds j true) a' w' (inv.set hj hjn) hfree' (ready_mono hr (Ne.symm hji)) h3.1 h3.2.1 ?_⟩) h2
      rw [Array.setIfInBounds_comm _ _ hji]
      exact h3.2.2

/-- the Bools that a region must meet -/
def tailB (md : Region.Mode) (ops : Array Oper) (n e : Nat) : Bool :=
  Region.noSelect ops && decide (n < ops.size) && sinkE md ops n e && Region.chainB md ops n

/-- what is known of the operations that have come up -/
def headB (md : Region.Mode) (ops : Array Oper) (n : Nat) (listed : Array Bool) : Bool :=
  decide (listed.size = ops.size) &&
  ((List.range ops.size).all fun j => !listed.getD j false || match ops[j]? with
    | some oj => oj.after.all fun e => !Region.binds md e || listed.getD e.on false
    | none => true) &&
  ((List.range ops.size).all fun t => decide (t < n) || !listed.getD t true)

theorem headInv_of {listed : Array Bool} (h : headB md ops n listed = true) : HeadInv md ops n listed := by
  simp only [headB, Bool.and_eq_true, decide_eq_true_eq, List.all_eq_true, List.mem_range, Bool.or_eq_true, Bool.not_eq_true'] at h
  obtain ⟨⟨h1, h2⟩, h3⟩ := h
  refine ⟨h1, fun j oj hj hl e he hb => ?_, fun t ht ht' => ?_⟩
  · have := h2 j (Array.getElem?_eq_some_iff.1 hj).1
    rcases this with h | h
    · rw [hl] at h; cases h
    · simp only [hj, Array.all_eq_true'] at h
      have := h e he
      simpa [hb] using this
  · have := h3 t ht'
    rcases this with h | h
    · omega
    · exact h

/-- take number i first -/
theorem wpAnyT_take (e i : Nat) {oi : Oper} {v : Value} {f : Nat} {listed : Array Bool} {a : Act} {w : World} (ht : tailB md ops n e = true) (hi : ops[i]? = some oi)
    (hB : (decide (i < n) && (i != e) && headB md ops n listed && Region.free md ops listed i && (Region.ready md ops listed).contains i) = true)
    (hQ : ∀ c a w, Q (.panic c) (a.put oi.dst v) w → Q (.panic c) a w) (hy : YieldsIf P ops S oi v a) (hS : S w)
    (h : wpAnyT P md ops Q S n g K f (listed.setIfInBounds i true) (a.put oi.dst v) w) : wpAnyT P md ops Q S n g K (f + 1) listed a w := by
  simp only [tailB, Bool.and_eq_true, decide_eq_true_eq, bne_iff_ne] at ht hB
  obtain ⟨⟨⟨hsel, hn⟩, hs⟩, hc⟩ := ht
  obtain ⟨⟨⟨⟨hin, hie⟩, hh⟩, hf⟩, hr⟩ := hB
  exact wpAnyT_first hi (Region.noSelect_spec hsel) hs hc hn hin hie hQ f listed a w (headInv_of hh) (Region.free_spec hi hf) (by simpa using hr) hy hS h

theorem wpAnyT_one (i : Nat) {f : Nat} {listed : Array Bool} {a : Act} {w : World} (hr : Region.ready md ops listed = [i]) (hin : i < n)
    (h : wpOp P ops Q i (fun a' w' => S w' ∧ wpAnyT P md ops Q S n g K f (listed.setIfInBounds i true) a' w') a w) : wpAnyT P md ops Q S n g K (f + 1) listed a w :=
  ⟨fun h0 => (by rw [hr] at h0; cases h0), fun j hj => by
    rw [hr] at hj
    obtain rfl : j = i := by simpa using hj
    exact ⟨hin, h⟩⟩
theorem wpAnyT_two (i k : Nat) {f : Nat} {listed : Array Bool} {a : Act} {w : World} (hr : Region.ready md ops listed = [i, k]) (hin : i < n) (hkn : k < n)
    (h1 : wpOp P ops Q i (fun a' w' => S w' ∧ wpAnyT P md ops Q S n g K f (listed.setIfInBounds i true) a' w') a w)
    (h2 : wpOp P ops Q k (fun a' w' => S w' ∧ wpAnyT P md ops Q S n g K f (listed.setIfInBounds k true) a' w') a w) : wpAnyT P md ops Q S n g K (f + 1) listed a w :=
  ⟨fun h0 => (by rw [hr] at h0; cases h0), fun j hj => by
    rw [hr] at hj
    rcases List.mem_cons.1 hj with rfl | hj
    · exact ⟨hin, h1⟩
    · obtain rfl : j = k := by simpa using hj
      exact ⟨hkn, h2⟩⟩

/-- the beginning: m operations of the head have not come up -/
theorem wpAny_tail {a : Act} {w : World} {l : List Oper} {listed : Array Bool} (n m : Nat) (S : World → Prop)
    (h : wpAnyT P .any l.toArray Q S n (l.length - n) (fun a' w' => wpList P l.toArray Q (l.drop n) a' w') m listed a w) : wpAny P .any l.toArray Q (m + (l.length - n)) listed a w :=
  wpAny_of_T (fun listed a' w' hL hK => by
    have := wpAny_of_seq (md := .any) (Q' := Q) (l.drop n) n listed a' w' (fun j => by simp [List.getElem?_drop]) (by rw [List.length_drop]; exact hL) hK
    rwa [List.length_drop] at this) _ _ _ _ h
theorem wp_region_tail {id : Nat} {a : Act} {w : World} {l : List Oper} (n : Nat) (S : World → Prop) (hm : P.follows .mixedOrders = true) (hn : n ≤ l.length)
    (h : wpAnyT P .any l.toArray Q S n (l.length - n) (fun a' w' => wpList P l.toArray Q (l.drop n) a' w') n (Array.replicate l.length false) a w.drew) : (Code.region id l.toArray true).wp P Q a w := by
  refine wp_region_any hm ?_
  have := wpAny_tail n n S h
  rw [show n + (l.length - n) = l.toArray.size by simp; omega] at this
  simpa using this

/-- .. the region's Bools met once -/
theorem wp_region_tailB {id : Nat} {a : Act} {w : World} {l : List Oper} (n e : Nat) (S : World → Prop) (hm : P.follows .mixedOrders = true) (hn : n ≤ l.length) (ht : tailB .any l.toArray n e = true)
    (h : tailB .any l.toArray n e = true → wpAnyT P .any l.toArray Q S n (l.length - n) (fun a' w' => wpList P l.toArray Q (l.drop n) a' w') n (Array.replicate l.length false) a w.drew) : (Code.region id l.toArray true).wp P Q a w :=
  wp_region_tail n S hm hn (h ht)

/-- at an operation: what follows is kept as a variable -/
theorem wpOp_at {i : Nat} {o : Oper} {a : Act} {w : World} (ho : ops[i]? = some o) (hg : o.guard = none) (h : ∀ K' : Act → World → Prop, Hid (∀ a w, K a w → K' a w) → o.wp P a w K' Q) : wpOp P ops Q i K a w := by
  unfold wpOp
  simp only [ho]
  rw [if_pos (by simp [Region.wanted, hg])]
  exact .inl (h K (Lib.hid fun _ _ h => h))
end
end Go.Proofs.YtclhdppepopgeaaGreatDoor
