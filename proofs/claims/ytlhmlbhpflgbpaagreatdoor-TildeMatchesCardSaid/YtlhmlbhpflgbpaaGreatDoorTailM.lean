/- A region that draws its order, with several stores at its end, each of which waits for the one ahead: what is read may be taken first, if the first store (number mk) waits for it. -/
import Derived.Test.YtlhmlbhpflgbpaaGreatDoorTail
namespace Go.Proofs.YtlhmlbhpflgbpaaGreatDoor
open Go Go.RowKit

section
variable {P : Program} {ops : Array Oper} {Q : Exit → Act → World → Prop} {md : Region.Mode} {S : World → Prop} {K : Act → World → Prop} {mk n g : Nat}
/-- whatever order is picked of the first n operations, S holds behind each till number mk has come up; then the tail comes in its one order -/
def wpAnyM (P : Program) (md : Region.Mode) (ops : Array Oper) (Q : Exit → Act → World → Prop) (S : World → Prop) (mk n g : Nat) (K : Act → World → Prop) : Nat → Array Bool → Act → World → Prop
  | 0, listed, a, w => Region.seqB md ops g n listed = true ∧ K a w
  | f + 1, listed, a, w =>
    Region.ready md ops listed ≠ [] ∧ ∀ i ∈ Region.ready md ops listed, i < n ∧ wpOp P ops Q i (fun a' w' => ((listed.setIfInBounds i true).getD mk false = true ∨ S w') ∧ wpAnyM P md ops Q S mk n g K f (listed.setIfInBounds i true) a' w') a w

theorem wpAny_of_M (hK : ∀ listed a w, Region.seqB md ops g n listed = true → K a w → wpAny P md ops Q g listed a w) :
    ∀ (f : Nat) (listed : Array Bool) (a : Act) (w : World), wpAnyM P md ops Q S mk n g K f listed a w → wpAny P md ops Q (f + g) listed a w
  | 0, listed, a, w, h => by rw [Nat.zero_add]; exact hK _ _ _ h.1 h.2
  | f + 1, listed, a, w, h => by
    rw [show f + 1 + g = (f + g) + 1 by omega]
    exact ⟨fun h0 => absurd h0 h.1, fun i hi => wpOp_mono (fun a' w' h' => wpAny_of_M hK f _ a' w' h'.2) (h.2 i hi).2⟩

theorem wpAnyM_first {e i : Nat} {oi : Oper} {v : Value} (hi : ops[i]? = some oi) (hsel : ∀ (j : Nat) (o : Oper) cs b, ops[j]? = some o → o.op ≠ .select cs b)
    (hs : sinkE md ops n e = true) (hc : Region.chainB md ops n = true) (hn : n < ops.size) (hin : i < n) (hie : i ≠ e) (hmw : Region.waitsFor md ops mk i = true) (hmi : mk ≠ i)
    (hQ : ∀ c a w, Q (.panic c) (a.put oi.dst v) w → Q (.panic c) a w) :
    ∀ (f : Nat) (listed : Array Bool) (a : Act) (w : World), HeadInv md ops n listed →
      (∀ j oj, ops[j]? = some oj → j ≠ i → listed.getD j true = false → (∀ e ∈ oj.after, Region.binds md e = true → e.on ≠ i) → oi.apart ops oj = true) →
      i ∈ Region.ready md ops listed → YieldsIf P ops S oi v a → S w →
      wpAnyM P md ops Q S mk n g K f (listed.setIfInBounds i true) (a.put oi.dst v) w → wpAnyM P md ops Q S mk n g K (f + 1) listed a w := by
  intro f
  induction f with
  | zero =>
    intro listed a w inv _ hr hy hS H
    have hun := (mem_ready.1 hr).1
    refine ⟨fun h => (by rw [h] at hr; cases hr), fun j hj => ?_⟩
    have hjn : j < n := by
      rcases Nat.lt_or_ge j n with h | h
      · exact h
      · exact absurd hj (tail_waitsE hs hc hn inv _ i rfl hin hie hun j h)
    refine ⟨hjn, ?_⟩
    by_cases hji : j = i
    · subst hji; exact hy.wpOp hi hS ⟨.inr hS, H⟩
    · have := seqB_ready H.1 j (ready_mono hj hji)
      omega
  | succ f ih =>
    intro listed a w inv hfree hr hy hS H
    have hun := (mem_ready.1 hr).1
    refine ⟨fun h => (by rw [h] at hr; cases hr), fun j hj => ?_⟩
    have hjn : j < n := by
      rcases Nat.lt_or_ge j n with h | h
      · exact h
      · exact absurd hj (tail_waitsE hs hc hn inv _ i rfl hin hie hun j h)
    refine ⟨hjn, ?_⟩
    by_cases hji : j = i
    · subst hji; exact hy.wpOp hi hS ⟨.inr hS, H⟩
    · have h1 := (H.2 j (ready_mono hj hji)).2
      obtain ⟨hjun, oj, hoj, hall⟩ := mem_ready.1 hj
      have hnot : ∀ e ∈ oj.after, Region.binds md e = true → e.on ≠ i := fun e he hb heq => by
        have h1 := hall e he hb
        rw [heq, getD_both hun] at h1
        cases h1
      have h2 := wpOp_putIf hoj (hfree j oj hoj hji hjun hnot) (fun cs b => hsel i oi cs b hi) (fun cs b => hsel j oj cs b hoj) hQ hy h1
      have hfree' : ∀ k ok, ops[k]? = some ok → k ≠ i → (listed.setIfInBounds j true).getD k true = false →
          (∀ e ∈ ok.after, Region.binds md e = true → e.on ≠ i) → oi.apart ops ok = true := fun k ok hk hki hun hno => by
        refine hfree k ok hk hki ?_ hno
        by_cases hjk : j = k
        · subst hjk; exact hjun
        · rw [getD_set_ne true hjk] at hun; exact hun
      obtain ⟨om, hom, em, hem, hbm, honm⟩ := Region.waitsFor_spec hmw
      have hmu : listed.getD mk false = false := by
        cases hl : listed.getD mk false with
        | false => rfl
        | true =>
          have h4 := inv.closed mk om hom hl em hem hbm
          rw [honm, getD_both hun] at h4
          cases h4
      have hjm : j ≠ mk := fun e => by
        subst e
        have : om = oj := Option.some.inj (hom.symm.trans hoj)
        subst this
        exact hnot em hem hbm honm
      have hSof : ∀ w' : World, (((listed.setIfInBounds i true).setIfInBounds j true).getD mk false = true ∨ S w') → S w' := fun w' h => by
        rcases h with h | h
        · rw [getD_set_ne false hjm, getD_set_ne false (Ne.symm hmi), hmu] at h
          cases h
        · exact h
      refine wpOp_mono (fun a' w' h3 => ⟨.inr (hSof w' h3.2.1), ih (listed.setIfInBounds j true) a' w' (inv.set hj hjn) hfree' (ready_mono hr (Ne.symm hji)) h3.1 (hSof w' h3.2.1) ?_⟩) h2
      rw [Array.setIfInBounds_comm _ _ hji]
      exact h3.2.2

/-- take number i first -/
theorem wpAnyM_take (e i : Nat) {oi : Oper} {v : Value} {f : Nat} {listed : Array Bool} {a : Act} {w : World} (ht : tailB md ops n e = true) (hi : ops[i]? = some oi)
    (hB : (decide (i < n) && (i != e) && headB md ops n listed && Region.free md ops listed i && (Region.ready md ops listed).contains i) = true) (hmw : (Region.waitsFor md ops mk i && (mk != i)) = true)
    (hQ : ∀ c a w, Q (.panic c) (a.put oi.dst v) w → Q (.panic c) a w) (hy : YieldsIf P ops S oi v a) (hS : S w)
    (h : wpAnyM P md ops Q S mk n g K f (listed.setIfInBounds i true) (a.put oi.dst v) w) : wpAnyM P md ops Q S mk n g K (f + 1) listed a w := by
  simp only [tailB, Bool.and_eq_true, decide_eq_true_eq, bne_iff_ne] at ht hB hmw
  obtain ⟨⟨⟨hsel, hn⟩, hs⟩, hc⟩ := ht
  obtain ⟨⟨⟨⟨hin, hie⟩, hh⟩, hf⟩, hr⟩ := hB
  exact wpAnyM_first hi (Region.noSelect_spec hsel) hs hc hn hin hie hmw.1 hmw.2 hQ f listed a w (headInv_of hh) (Region.free_spec hi hf) (by simpa using hr) hy hS h

theorem wpAnyM_one (i : Nat) {f : Nat} {listed : Array Bool} {a : Act} {w : World} (hr : Region.ready md ops listed = [i]) (hin : i < n)
    (h : wpOp P ops Q i (fun a' w' => ((listed.setIfInBounds i true).getD mk false = true ∨ S w') ∧ wpAnyM P md ops Q S mk n g K f (listed.setIfInBounds i true) a' w') a w) : wpAnyM P md ops Q S mk n g K (f + 1) listed a w :=
  ⟨fun h0 => (by rw [hr] at h0; cases h0), fun j hj => by
    rw [hr] at hj
    obtain rfl : j = i := by simpa using hj
    exact ⟨hin, h⟩⟩
/-- the beginning: m operations of the head have not come up -/
theorem wpAny_tailM {a : Act} {w : World} {l : List Oper} {listed : Array Bool} (mk n m : Nat) (S : World → Prop)
    (h : wpAnyM P .any l.toArray Q S mk n (l.length - n) (fun a' w' => wpList P l.toArray Q (l.drop n) a' w') m listed a w) : wpAny P .any l.toArray Q (m + (l.length - n)) listed a w :=
  wpAny_of_M (fun listed a' w' hL hK => by
    have := wpAny_of_seq (md := .any) (Q' := Q) (l.drop n) n listed a' w' (fun j => by simp [List.getElem?_drop]) (by rw [List.length_drop]; exact hL) hK
    rwa [List.length_drop] at this) _ _ _ _ h
theorem wp_region_tailM {id : Nat} {a : Act} {w : World} {l : List Oper} (mk n : Nat) (S : World → Prop) (hm : P.follows .mixedOrders = true) (hn : n ≤ l.length)
    (h : wpAnyM P .any l.toArray Q S mk n (l.length - n) (fun a' w' => wpList P l.toArray Q (l.drop n) a' w') n (Array.replicate l.length false) a w.drew) : (Code.region id l.toArray true).wp P Q a w := by
  refine wp_region_any hm ?_
  have := wpAny_tailM mk n n S h
  rw [show n + (l.length - n) = l.toArray.size by simp; omega] at this
  simpa using this

end
end Go.Proofs.YtlhmlbhpflgbpaaGreatDoor
