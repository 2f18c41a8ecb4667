/- Arithmetic expressions: the program's printer, whole: what has the form; and a last part of another form. -/
import Derived.Test.YtiigclkebnmopaaGreatDoorArPrH
import Derived.Test.YtiigclkebnmopaaGreatDoorArPrI
import Derived.Test.YtiigclkebnmopaaGreatDoorArPrJ
import Derived.Test.YtiigclkebnmopaaGreatDoorArPrK
import Derived.Test.YtiigclkebnmopaaGreatDoorArRPa
namespace Go.Proofs.YtiigclkebnmopaaGreatDoor
open Go.RowKit Go.Shelf

/-- what the printer writes of an expression and of it as a part -/
def PB (w0 : World) (B b : Nat) (x : Ex) (t u : List UInt8) (bd : Bool) : Prop := PE w0 B b x t bd ∧ PO w0 B b x u bd
theorem PB.leaf {w0 : World} {B b : Nat} (h0 : W0 w0 B b) {x : Ex} (hlf : leafO x.op = true) {t : List UInt8} {bd : Bool} (E : PE w0 B b x t bd) : PB w0 B b x t t bd := ⟨E, po_leaf w0 B b h0 x hlf t bd E⟩
theorem PB.node {w0 : World} {B b : Nat} (h0 : W0 w0 B b) {x : Ex} (hlf : leafO x.op = false) {t : List UInt8} {bd : Bool} (E : PE w0 B b x t bd) : PB w0 B b x t (40 :: (t ++ [41])) bd := ⟨E, po_node w0 B b h0 x hlf t bd E⟩
/-- what has the form: its text -/
theorem pb_all (w0 : World) (B b : Nat) (h0 : W0 w0 B b) : ∀ (N : Nat) (x : Ex), x.size ≤ N → shaped x = true → PB w0 B b x (shw x) (shi x) false
  | 0, x, h, _ => by have := size_pos x; omega
  | N + 1, .mk op n nm l, hN, hs => by
    have hsz : (Ex.mk op n nm l).size = Ex.sizes l + 1 := by simp [Ex.size]
    have IH : shapeds l = true → ∀ y ∈ l, PB w0 B b y (shw y) (shi y) false := fun h y hy => by
      have h2 := size_in hy
      exact pb_all w0 B b h0 N y (by omega) (shaped_sizes h y hy)
    rcases shaped_cases hs with ⟨rfl, h0', h1, rfl, rfl⟩ | ⟨rfl, rfl, rfl, h⟩ | ⟨rfl, rfl, y, rfl, h, hy⟩ | ⟨hlf, rfl, rfl, h6, har, h⟩
    · have hm : (maxN : Int) = 9223372036854775807 := rfl
      have := pe_n w0 B b h0 n [] [] (by omega) (by omega)
      rw [decide_eq_true h0'] at this
      exact PB.leaf h0 (by rfl) this
    · exact PB.leaf h0 (by rfl) (pe_v w0 B b h0 0 nm [])
    · exact PB.leaf h0 (by rfl) (pe_e w0 B b h0 0 nm y (shw y) false (IH (by simp [shapeds, hy]) y (by simp)).1)
    · have e0 : shi (.mk op 0 [] l) = 40 :: (shw (.mk op 0 [] l) ++ [41]) := by
        unfold shi inn
        rw [if_neg (by simp [Ex.op, hlf])]
      have key : PE w0 B b (.mk op 0 [] l) (shw (.mk op 0 [] l)) false → PB w0 B b (.mk op 0 [] l) (shw (.mk op 0 [] l)) (shi (.mk op 0 [] l)) false := fun h => by
        rw [e0]
        exact PB.node h0 (x := .mk op 0 [] l) hlf h
      apply key
      rcases h with ⟨h, y, rfl⟩ | ⟨rfl, a, b', c, rfl⟩ | ⟨h, a, b', rfl⟩
      · have e : shw (.mk op 0 [] [y]) = aheadO op ++ (shi y ++ behindO op) := shw_one op hlf
        have hI := (IH h6 y (by simp)).2
        rw [e]
        unfold unO setU at h
        simp at h
        rcases h with rfl | rfl | rfl | rfl | rfl | rfl | rfl | rfl
        · exact pe_u0 w0 B b h0 0 [] y _ _ hI
        · exact pe_u1 w0 B b h0 0 [] y _ _ hI
        · exact pe_u2 w0 B b h0 0 [] y _ _ hI
        · exact pe_u3 w0 B b h0 0 [] y _ _ hI
        · exact pe_u4 w0 B b h0 0 [] y _ _ hI
        · exact pe_u5 w0 B b h0 0 [] y _ _ hI
        · exact pe_u6 w0 B b h0 0 [] y _ _ hI
        · exact pe_u7 w0 B b h0 0 [] y _ _ hI
      · have e : shw (.mk [63] 0 [] [a, b', c]) = shi a ++ 32 :: 63 :: 32 :: (shi b' ++ 32 :: 58 :: 32 :: shi c) := shw_three
        rw [e]
        exact pe_three w0 B b h0 0 [] a b' c _ _ _ false false false (IH h6 a (by simp)).2 (IH h6 b' (by simp)).2 (IH h6 c (by simp)).2
      · have e : shw (.mk op 0 [] [a, b']) = shi a ++ 32 :: (op ++ 32 :: shi b') := shw_two op hlf
        rw [e]
        exact pe_two w0 B b h0 op (two_all h) 0 [] a b' _ _ false false (IH h6 a (by simp)).2 (IH h6 b' (by simp)).2

/-- a last part {op, n}: some short text -/
theorem pb_odd (op : List UInt8) (n : Int) (h1 : -9223372036854775808 ≤ n) (h2 : n ≤ 9223372036854775807) : ∃ t u bd, (∀ w0 B b, W0 w0 B b → PB w0 B b (.mk op n [] []) t u bd) ∧ t.length ≤ 20 ∧ u.length ≤ 20 := by
  by_cases hn : op = [110]
  · subst hn
    exact ⟨_, _, _, fun w0 B b h0 => PB.leaf h0 (by rfl) (pe_n w0 B b h0 n [] [] h1 h2), itoa_20 h1 h2, itoa_20 h1 h2⟩
  · by_cases hv : op = [118]
    · subst hv
      exact ⟨_, _, _, fun w0 B b h0 => PB.leaf h0 (by rfl) (pe_v w0 B b h0 n [] []), by decide, by decide⟩
    · have E := fun w0 B b h0 => pe_none w0 B b h0 op hn hv n []
      cases hl : leafO op with
      | true => exact ⟨_, _, _, fun w0 B b h0 => PB.leaf h0 (by simpa [Ex.op] using hl) (E w0 B b h0), by decide, by decide⟩
      | false => exact ⟨_, _, _, fun w0 B b h0 => PB.node h0 (by simpa [Ex.op] using hl) (E w0 B b h0), by decide, by decide⟩
where
  itoa_20 {n : Int} (h1 : -9223372036854775808 ≤ n) (h2 : n ≤ 9223372036854775807) : (Lib.itoa n).length ≤ 20 := by
    by_cases h : 0 ≤ n
    · have hm : (maxN : Int) = 9223372036854775807 := rfl
      have := itoa_len h (by omega)
      omega
    · unfold Lib.itoa
      rw [if_pos (by omega)]
      have h3 : Lib.nDigits n.natAbs ≤ 19 := itoa_len.nDig_le (n := 0) 19 _ (by omega) (by omega)
      simp [Lib.decDigits_length]
      omega

/-- a tree with another last part -/
def lastBe (x y : Ex) : Ex := match x with | .mk op n nm l => .mk op n nm (l.dropLast ++ [y])
/-- what has the form, a last part of any form: some text that is little longer -/
theorem pb_last (x : Ex) (hs : shaped x = true) (ha : x.args ≠ []) (op' : List UInt8) (n' : Int) (h1 : -9223372036854775808 ≤ n') (h2 : n' ≤ 9223372036854775807) :
    ∃ t bd, (∀ w0 B b, W0 w0 B b → PE w0 B b (lastBe x (.mk op' n' [] [])) t bd) ∧ t ≠ [] ∧ t.length ≤ (shw x).length + 30 := by
  obtain ⟨t', u', bd', E', ht', hu'⟩ := pb_odd op' n' h1 h2
  obtain ⟨op, n, nm, l⟩ := x
  rcases shaped_cases hs with ⟨rfl, h0', h1, rfl, rfl⟩ | ⟨rfl, rfl, rfl, h⟩ | ⟨rfl, rfl, y, rfl, h, hy⟩ | ⟨hlf, rfl, rfl, h6, har, h⟩
  · exact absurd rfl ha
  · exact absurd rfl ha
  · have e : shw (.mk [101] 0 nm [y]) = nm ++ 91 :: (shw y ++ [93]) := rfl
    refine ⟨_, _, fun w0 B b h0 => pe_e w0 B b h0 0 nm _ t' bd' (E' w0 B b h0).1, by simp, ?_⟩
    rw [e]
    simp
    omega
  · have IH : ∀ y ∈ l, ∀ w0 B b, W0 w0 B b → PB w0 B b y (shw y) (shi y) false := fun y hy w0 B b h0 => pb_all w0 B b h0 _ y (Nat.le_refl _) (shaped_sizes h6 y hy)
    rcases h with ⟨h, y, rfl⟩ | ⟨rfl, a, b', c, rfl⟩ | ⟨h, a, b', rfl⟩
    · have e : shw (.mk op 0 [] [y]) = aheadO op ++ (shi y ++ behindO op) := shw_one op hlf
      have hI := fun w0 B b h0 => (E' w0 B b h0).2
      rw [e]
      unfold unO setU at h
      simp at h
      rcases h with rfl | rfl | rfl | rfl | rfl | rfl | rfl | rfl
      · exact ⟨_, _, fun w0 B b h0 => pe_u0 w0 B b h0 0 [] _ _ _ (hI w0 B b h0), by simp, by simp; omega⟩
      · exact ⟨_, _, fun w0 B b h0 => pe_u1 w0 B b h0 0 [] _ _ _ (hI w0 B b h0), by simp, by simp; omega⟩
      · exact ⟨_, _, fun w0 B b h0 => pe_u2 w0 B b h0 0 [] _ _ _ (hI w0 B b h0), by simp, by simp; omega⟩
      · exact ⟨_, _, fun w0 B b h0 => pe_u3 w0 B b h0 0 [] _ _ _ (hI w0 B b h0), by simp, by simp; omega⟩
      · exact ⟨_, _, fun w0 B b h0 => pe_u4 w0 B b h0 0 [] _ _ _ (hI w0 B b h0), by simp, by simp; omega⟩
      · exact ⟨_, _, fun w0 B b h0 => pe_u5 w0 B b h0 0 [] _ _ _ (hI w0 B b h0), by simp, by simp; omega⟩
      · exact ⟨_, _, fun w0 B b h0 => pe_u6 w0 B b h0 0 [] _ _ _ (hI w0 B b h0), by simp, by simp; omega⟩
      · exact ⟨_, _, fun w0 B b h0 => pe_u7 w0 B b h0 0 [] _ _ _ (hI w0 B b h0), by simp, by simp; omega⟩
    · have e : shw (.mk [63] 0 [] [a, b', c]) = shi a ++ 32 :: 63 :: 32 :: (shi b' ++ 32 :: 58 :: 32 :: shi c) := shw_three
      rw [e]
      refine ⟨_, _, fun w0 B b h0 => pe_three w0 B b h0 0 [] a b' _ _ _ _ false false bd' (IH a (by simp) w0 B b h0).2 (IH b' (by simp) w0 B b h0).2 (E' w0 B b h0).2, by simp, ?_⟩
      simp
      omega
    · have e : shw (.mk op 0 [] [a, b']) = shi a ++ 32 :: (op ++ 32 :: shi b') := shw_two op hlf
      rw [e]
      refine ⟨_, _, fun w0 B b h0 => pe_two w0 B b h0 op (two_all h) 0 [] a _ _ _ false bd' (IH a (by simp) w0 B b h0).2 (E' w0 B b h0).2, by simp, ?_⟩
      simp
      omega

end Go.Proofs.YtiigclkebnmopaaGreatDoor
