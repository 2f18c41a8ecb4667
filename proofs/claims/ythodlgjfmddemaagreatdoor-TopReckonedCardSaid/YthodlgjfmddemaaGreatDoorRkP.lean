/- TopReckoned: the plain facts behind its walk. -/
import Derived.Test.YthodlgjfmddemaaGreatDoorRkNb
import Derived.Test.YthodlgjfmddemaaGreatDoorRkNc
import Derived.Test.YthodlgjfmddemaaGreatDoorRkNd
import Derived.Test.YthodlgjfmddemaaGreatDoorRkNe
import Derived.Test.YthodlgjfmddemaaGreatDoorBase
namespace Go.Proofs.YthodlgjfmddemaaGreatDoor.Rk
open Go.RowKit

theorem text_len (d : Dec) : d.text.length ≤ d.size + 2 := by
  have h1 := digits_len d
  have h2 : d.plain.length ≤ d.digits.length + 1 := by
    unfold Dec.plain
    rw [List.length_append, List.length_take]
    split
    · rw [List.length_cons, List.length_drop]; omega
    · rw [List.length_nil]; omega
  have h3 : d.text.length ≤ d.plain.length + 1 := by
    unfold Dec.text
    split
    · rw [List.length_cons]; omega
    · omega
  unfold Dec.size
  omega
theorem plus_ok (d e : Dec) : (d.plus e).ok := by
  unfold Dec.plus
  dsimp only
  split
  · exact clean_ok _
  · split
    · exact clean_ok _
    · exact clean_ok _
theorem err_two {a b : List UInt8} {d e : Dec} {sc : Int} (ha : decOf a = some d) (hb : decOf b = some e) (hd : d.size ≤ 200) (he : e.size ≤ 200) (h0 : 0 ≤ sc) (h1 : sc ≤ 40) : decErr [a, b] sc = 0 := by
  refine err_ok (fun t ht => ?_) h0 h1
  rcases List.mem_cons.1 ht with rfl | ht
  · exact ⟨d, ha, hd⟩
  · rw [List.mem_singleton.1 ht]; exact ⟨e, hb, he⟩
theorem times_is {a b : List UInt8} {d e : Dec} (ha : decOf a = some d) (hb : decOf b = some e) (hd : d.size ≤ 200) (he : e.size ≤ 200) : opTimes a b 40 = told (d.times e 40) := by
  unfold opTimes
  rw [if_pos (err_two ha hb hd he (by decide) (by decide)), decD_of ha, decD_of hb]
  rfl
theorem add_is {a b : List UInt8} {d e : Dec} (ha : decOf a = some d) (hb : decOf b = some e) (hd : d.size ≤ 200) (he : e.size ≤ 200) : opAdd a b = told (d.plus e) := by
  unfold opAdd
  rw [if_pos (err_two ha hb hd he (by decide) (by decide)), decD_of ha, decD_of hb]
theorem order_is {a b : List UInt8} {d e : Dec} (ha : decOf a = some d) (hb : decOf b = some e) (hd : d.size ≤ 200) (he : e.size ≤ 200) : opOrder a b = (d.cmp e, 0) := by
  unfold opOrder
  rw [if_pos (err_two ha hb hd he (by decide) (by decide)), decD_of ha, decD_of hb]
theorem order_none (a : List UInt8) : opOrder [] a = (0, 1) := by
  have h : decErr [[], a] 0 = 1 := err_syntax (List.mem_cons_self ..) rfl
  unfold opOrder
  rw [h]
  rfl
theorem told_cases (d : Dec) : (200 < d.size ∧ told d = ([], 2)) ∨ (d.size ≤ 200 ∧ told d = (d.text, 0)) := by
  unfold told
  by_cases h : 200 < d.size
  · exact .inl ⟨h, by rw [if_pos h]⟩
  · exact .inr ⟨by omega, by rw [if_neg h]⟩
/-- what the first part's numbers answer -/
theorem plain_first {a b : List UInt8} {d1 d2 : Dec} {s : Nat} (h1 : decOf a = some d1) (h2 : decOf b = some d2) (z1 : d1.size ≤ 200) (z2 : d2.size ≤ 200) (h0 : d2.n ≠ 0)
    (zq : (d1.quotient d2 s).size ≤ 200) (zr : (d1.rest d2 s).size ≤ 200) :
    let q := d1.quotient d2 s
    opTimes q.text b 40 = ([], 2) ∨ (∃ p, opTimes q.text b 40 = (p, 0) ∧ p.length ≤ 1000 ∧ (60 < q.text.length + b.length ∨ 20 < (cutDot q.text).2.1.length ∨ 20 < (cutDot b).2.1.length ∨ ∃ t, opAdd p (d1.rest d2 s).text = (t, 0) ∧ t.length ≤ 1000 ∧ opOrder t a = (0, 0))) := by
  intro q
  have hq : decOf q.text = some q := text_read (clean_ok _)
  have hr : decOf (d1.rest d2 s).text = some (d1.rest d2 s) := text_read (cut_ok _ _)
  rw [times_is hq h2 zq z2]
  rcases told_cases (q.times d2 40) with ⟨_, ht⟩ | ⟨zp, ht⟩
  · exact .inl ht
  · refine .inr ⟨_, ht, by have := text_len (q.times d2 40); omega, ?_⟩
    by_cases hl : 60 < q.text.length + b.length
    · exact .inl hl
    by_cases hs : 20 < (cutDot q.text).2.1.length
    · exact .inr (.inl hs)
    by_cases hbs : 20 < (cutDot b).2.1.length
    · exact .inr (.inr (.inl hbs))
    obtain ⟨c1, c2, _⟩ := decOf_some hq
    obtain ⟨c4, c5, _⟩ := decOf_some h2
    have hqs : q.scale = s := rfl
    obtain ⟨l1, l2⟩ := law_quotient z1 h0 zr (s := s) (by omega) (by omega) (by show (digs q.n).length + _ ≤ _; omega)
    have hp : decOf (q.times d2 40).text = some (q.times d2 40) := text_read (cut_ok _ _)
    have hsum : decOf ((q.times d2 40).plus (d1.rest d2 s)).text = some ((q.times d2 40).plus (d1.rest d2 s)) := text_read (plus_ok _ _)
    refine .inr (.inr (.inr ⟨((q.times d2 40).plus (d1.rest d2 s)).text, ?_, by have := text_len ((q.times d2 40).plus (d1.rest d2 s)); have : ((q.times d2 40).plus (d1.rest d2 s)).size ≤ 200 := l1; omega, ?_⟩))
    · rw [add_is hp hr zp zr]
      rcases told_cases ((q.times d2 40).plus (d1.rest d2 s)) with ⟨h, _⟩ | ⟨_, h⟩
      · exact absurd l1 (Nat.not_le_of_lt h)
      · exact h
    · rw [order_is hsum h1 l1 z1]
      exact congrArg (fun x => (x, (0 : Int))) l2
/-- what the second part's numbers answer -/
theorem plain_second {a : List UInt8} {d : Dec} {s R : Nat} (h1 : decOf a = some d) (z1 : d.size ≤ 200) (hb : d.below = false) (hR : R * R ≤ d.n * 10 ^ (2 * max s d.scale - d.scale)) (zx : (Dec.mk false R (max s d.scale)).size ≤ 200) :
    let x := (Dec.mk false R (max s d.scale)).text
    x.length ≤ 1000 ∧ ((opTimes x x 40 = ([], 2) ∧ opOrder [] a = (0, 1)) ∨ ∃ p n, opTimes x x 40 = (p, 0) ∧ p.length ≤ 1000 ∧ opOrder p a = (n, 0) ∧ n ≤ 0) := by
  intro x
  have hx : decOf x = some (Dec.mk false R (max s d.scale)) := text_read (fun h => by cases h)
  refine ⟨by have := text_len (Dec.mk false R (max s d.scale)); show (Dec.mk false R (max s d.scale)).text.length ≤ 1000; omega, ?_⟩
  rw [times_is hx hx zx zx]
  rcases told_cases ((Dec.mk false R (max s d.scale)).times (Dec.mk false R (max s d.scale)) 40) with ⟨_, ht⟩ | ⟨zp, ht⟩
  · exact .inl ⟨ht, order_none a⟩
  · have hp : decOf ((Dec.mk false R (max s d.scale)).times (Dec.mk false R (max s d.scale)) 40).text = some _ := text_read (cut_ok _ _)
    exact .inr ⟨_, _, ht, by have := text_len ((Dec.mk false R (max s d.scale)).times (Dec.mk false R (max s d.scale)) 40); omega, order_is hp h1 zp z1, law_root hb hR⟩
end Go.Proofs.YthodlgjfmddemaaGreatDoor.Rk
