/- ConstMatches, the law's words: the generator of words at any depth up to two. (Begun; see NOTES.md.) -/
import Derived.Test.YtbgmjmooifjhjaaDoorDiceI
import Derived.Test.YtbgmjmooifjhjaaDoorDiceE
namespace Go.Proofs.YtbgmjmooifjhjaaDoor
open Go.RowKit

theorem CE.more {b B C C' : Nat} {d : Int} (h : CE b B C d) (hc : C ≤ C') : CE b B C' d := fun W k' hd hk => (h W k' hd (by omega)).mono fun _ _ ⟨op, nm, n, A, l, c, he, hd, ho⟩ => ⟨op, nm, n, A, l, c, he, hd.more' (by omega), ho⟩
theorem CA.more {b B C C' : Nat} {d : Int} (h : CA b B C d) (hc : C ≤ C') : CA b B C' d := fun sl W k' hd hk => (h sl W k' hd (by omega)).mono fun _ _ ⟨A, l, c, he, hd, ho⟩ => ⟨A, l, c, he, hd.more' (by omega), ho⟩
theorem CP.more {b B C C' : Nat} {d : Int} (h : CP b B C d) (hc : C ≤ C') : CP b B C' d := fun W k' hd hk => (h W k' hd (by omega)).mono fun _ _ ⟨p, he, hd, ho⟩ => ⟨p, he, hd.more' (by omega), ho⟩
theorem CI.more {b B C C' : Nat} {d : Int} (h : CI b B C d) (hc : C ≤ C') : CI b B C' d := fun W k' hd hk => (h W k' hd (by omega)).mono fun _ _ ⟨kd, p3, p4, p5, he, hd, ho⟩ => ⟨kd, p3, p4, p5, he, hd.more' (by omega), ho⟩
theorem CW.more {b B C C' : Nat} {d : Int} (h : CW b B C d) (hc : C ≤ C') : CW b B C' d := fun W k' hd hk => (h W k' hd (by omega)).mono fun _ _ ⟨v, l, he, hl, hs⟩ => ⟨v, l, he, hl, hs.more (by omega)⟩
/-- an inner piece, by the word one below -/
theorem inner_of {b B C E : Nat} {d : Int} (hd : -90 ≤ d) (hd2 : d ≤ 2) (hE : ∀ d : Int, -100 ≤ d → d ≤ 1 → CE b B E d) (hW : CW b B C (d - 1)) : CI b B (3 * (C + 5 + E) + 20 + E + 5) d := by
  have hA : CA b B (C + 5) (d - 1) := fun sl W k' h hk => (argument_step b B k' C (d - 1) sl W h (by omega) hW).mono fun _ _ ⟨A, l, c, he, hd, ho⟩ => ⟨A, l, c, he, hd.more' (by omega), ho⟩
  have hP : CP b B (3 * (C + 5 + E) + 20) d := fun W k' h hk => (param_step b B k' (C + 5 + E) d W h (by omega) (by omega) (by omega) (hA.more (by omega)) ((hE (d - 2) (by omega) (by omega)).more (by omega))).mono fun _ _ ⟨p, he, hd, ho⟩ => ⟨p, he, hd.more' (by omega), ho⟩
  exact fun W k' h hk => (inner_step b B k' (3 * (C + 5 + E) + 20 + E) d W h (by omega) (by omega) (by omega) (hP.more (by omega)) ((hE (d - 1) (by omega) (by omega)).more (by omega))).mono fun _ _ ⟨kd, p3, p4, p5, he, hd, ho⟩ => ⟨kd, p3, p4, p5, he, hd.more' (by omega), ho⟩
def wcost (E : Nat) : Nat → Nat
  | 0 => 100
  | n + 1 => 9 * (3 * (wcost E n + 5 + E) + 20 + E + 5) + 100
theorem word_any (b B E : Nat) (hE : ∀ d : Int, -100 ≤ d → d ≤ 1 → CE b B E d) (n : Nat) : ∀ d : Int, -80 ≤ d → d ≤ 2 → d ≤ n → CW b B (wcost E n) d := by
  induction n with
  | zero =>
    intro d h1 h2 h3 W k h hk
    have hw : wcost E 0 = 100 := rfl
    rw [hw] at hk ⊢
    refine (word_step b B k 0 d W h (by omega) (by omega) h2 (fun h => by omega) (fun h => by omega)).mono fun _ _ ⟨v, l, he, hl, hs⟩ => ⟨v, l, he, hl, hs.more (by omega)⟩
  | succ n ih =>
    intro d h1 h2 h3 W k h hk
    have hw : wcost E (n + 1) = 9 * (3 * (wcost E n + 5 + E) + 20 + E + 5) + 100 := rfl
    rw [hw] at hk ⊢
    generalize wcost E n = M at *
    by_cases h0 : 0 < d
    · refine (word_step b B k (3 * (M + 5 + E) + 20 + E + 5) d W h (by omega) (by omega) h2 (fun _ => inner_of (by omega) h2 hE (ih _ (by omega) (by omega) (by omega))) (fun _ => ?_)).mono fun _ _ ⟨v, l, he, hl, hs⟩ => ⟨v, l, he, hl, hs.more (by omega)⟩
      exact inner_of (by omega) (by omega) hE (ih _ (by omega) (by omega) (by omega))
    · refine (word_step b B k 0 d W h (by omega) (by omega) h2 (fun h => by omega) (fun h => by omega)).mono fun _ _ ⟨v, l, he, hl, hs⟩ => ⟨v, l, he, hl, hs.more (by omega)⟩
theorem expr_low (b B : Nat) : ∀ d : Int, -100 ≤ d → d ≤ 1 → CE b B (ecost 4) d := fun d h1 h2 => expr_any b B 4 d h1 (by omega) (by omega)
theorem cost_two : 0 + wcost (ecost 4) 2 ≤ 4611686018427387904 := by decide
theorem word_two (b B : Nat) (W : World) (h : DB W b B 0) : ∃ m, Calls Tryd.prog 7 #[.pointer (some ⟨b, 0, none⟩), .int .i64 2] W (WP b B m W) :=
  ⟨_, word_any b B (ecost 4) (expr_low b B) 2 2 (by decide) (by decide) (by decide) W 0 h cost_two⟩
/-- the word as Const reads it -/
theorem WS.word {b B k : Nat} {a w : World} {v : Value} {l : List PQ} (h : WS b B k a w v l) (hl : l.length ≤ 3) : WM w v (l.map PQ.pc) ∧ (l.map PQ.pc).length ≤ 1000000 ∧ totL (l.map PQ.pc) ≤ 1000000000 ∧ ∀ p ∈ l.map PQ.pc, p.subs.length ≤ 1000000 := by
  have hlen : (l.map PQ.pc).length = l.length := by simp
  have ht : ∀ l' : List PQ, (∀ p ∈ l', GoodP B w v p) → totL (l'.map PQ.pc) ≤ l'.length * 500 := by
    intro l' hg
    induction l' with
    | nil => simp [totL]
    | cons p r ih =>
      have h1 := hg p List.mem_cons_self
      have h2 := ih (fun q hq => hg q (List.mem_cons_of_mem _ hq))
      have h3 := h1.text
      have h4 := h1.subs.2
      show p.text.size + subTot p.subs + totL (r.map PQ.pc) ≤ (r.length + 1) * 500
      omega
  have ht2 := ht l h.good
  refine ⟨?_, by omega, by omega, fun p hp => ?_⟩
  · obtain ⟨A, c, rfl, hA⟩ := h.form
    refine ⟨A, c, by rw [hlen], fun h0 => ?_⟩
    obtain ⟨g, rfl⟩ := hA (by omega)
    refine ⟨g, 0, rfl, (h.own.lt g rfl).2, fun j hj => ?_⟩
    have hj2 : j < l.length := by omega
    have hp := row_piece h.own j hj2
    have hs : (l.map PQ.pc)[j] = l[j].pc := by simp
    rw [hs]
    exact ⟨l[j].parts, hp, (h.good _ (List.getElem_mem hj2)).mem⟩
  · obtain ⟨q, hq, rfl⟩ := List.mem_map.1 hp
    have := (h.good q hq).subs.1
    show q.subs.length ≤ 1000000
    omega

end Go.Proofs.YtbgmjmooifjhjaaDoor
