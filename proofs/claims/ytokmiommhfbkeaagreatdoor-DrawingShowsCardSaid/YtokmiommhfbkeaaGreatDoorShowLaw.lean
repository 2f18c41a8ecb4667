/- DrawingShows, the plain law: a terminal's row; what Draw sends leaves on it the row that was to be shown. Plain Lean; no program in sight. -/
import Derived.Test.YtokmiommhfbkeaaGreatDoorDrawLaw
namespace Go.Proofs.YtokmiommhfbkeaaGreatDoor
open Go.RowKit

/-- a row of a terminal, and the cursor's column -/
abbrev SC := List UInt8 × Nat
/-- a byte is put where the cursor is -/
def putC (c : UInt8) (x : SC) : SC := ((x.1 ++ List.replicate (x.2 + 1 - x.1.length) 32).set x.2 c, x.2 + 1)
/-- what a terminal understands, and what it makes of it -/
inductive Feeds : List UInt8 → SC → SC → Prop
  | nil (x : SC) : Feeds [] x x
  | put (c : UInt8) (l : List UInt8) (x y : SC) : 32 ≤ c.toNat → c.toNat ≤ 126 → Feeds l (putC c x) y → Feeds (c :: l) x y
  | back (l : List UInt8) (x y : SC) : 0 < x.2 → Feeds l (x.1, x.2 - 1) y → Feeds (8 :: l) x y
  | cr (l : List UInt8) (x y : SC) : Feeds l (x.1, 0) y → Feeds (13 :: l) x y
  | erase (l : List UInt8) (x y : SC) : Feeds l (x.1.take x.2, x.2) y → Feeds (27 :: 91 :: 75 :: l) x y
  | right (n : Int) (l : List UInt8) (x y : SC) : 1 ≤ n → n ≤ 1000 → Feeds l (x.1, x.2 + n.toNat) y → Feeds (rightL n ++ l) x y

/-- what stands in a column -/
def cellC (r : List UInt8) (i : Nat) : UInt8 := r.getD i 32
theorem cell_put (c : UInt8) (x : SC) (i : Nat) : cellC (putC c x).1 i = if i = x.2 then c else cellC x.1 i := by
  unfold putC cellC
  dsimp only
  rw [List.getD_eq_getElem?_getD, List.getElem?_set]
  by_cases h : x.2 = i
  · subst h
    rw [if_pos rfl, if_pos (by rw [List.length_append, List.length_replicate]; omega), if_pos rfl]
    rfl
  · rw [if_neg h, if_neg (fun e => h e.symm), List.getD_eq_getElem?_getD]
    by_cases h2 : i < x.1.length
    · rw [List.getElem?_append_left h2]
    · rw [List.getElem?_append_right (by omega), List.getElem?_eq_none (l := x.1) (by omega), List.getElem?_replicate]
      split <;> rfl
theorem cell_take (r : List UInt8) (k i : Nat) : cellC (r.take k) i = if i < k then cellC r i else 32 := by
  unfold cellC
  rw [List.getD_eq_getElem?_getD, List.getElem?_take]
  split
  · rw [List.getD_eq_getElem?_getD]
  · rfl
/-- a text is put -/
theorem feeds_text : ∀ (u : List UInt8) (x : SC), (∀ c ∈ u, 32 ≤ c.toNat ∧ c.toNat ≤ 126) →
    ∃ z : SC, z.2 = x.2 + u.length ∧ (∀ i, cellC z.1 i = if x.2 ≤ i ∧ i < x.2 + u.length then cellC u (i - x.2) else cellC x.1 i) ∧ (∀ l y, Feeds l z y → Feeds (u ++ l) x y)
  | [], x, _ => ⟨x, rfl, fun i => by rw [if_neg (by simp only [List.length_nil]; omega)], fun _ _ h => h⟩
  | c :: u, x, hu => by
    obtain ⟨z, h1, h2, h3⟩ := feeds_text u (putC c x) (fun d hd => hu d (List.mem_cons_of_mem _ hd))
    have hc := hu c List.mem_cons_self
    have e2 : (putC c x).2 = x.2 + 1 := rfl
    refine ⟨z, by rw [h1, e2, List.length_cons]; omega, fun i => ?_, fun l y h => Feeds.put c _ x y hc.1 hc.2 (h3 l y h)⟩
    rw [h2 i, e2, cell_put, List.length_cons]
    by_cases a : x.2 = i
    · subst a
      rw [if_neg (by omega), if_pos rfl, if_pos (by omega), Nat.sub_self]; rfl
    · by_cases b : x.2 + 1 ≤ i ∧ i < x.2 + 1 + u.length
      · rw [if_pos b, if_pos (by omega)]
        unfold cellC
        rw [show i - x.2 = (i - (x.2 + 1)) + 1 by omega]
        simp
      · rw [if_neg b, if_neg (fun e => a e.symm), if_neg (by omega)]
theorem feeds_back (l : List UInt8) (y : SC) : ∀ (k : Nat) (x : SC), k ≤ x.2 → Feeds l (x.1, x.2 - k) y → Feeds (Lib.repeatL [8] k ++ l) x y
  | 0, x, _, h => h
  | k + 1, x, hk, h => by
    have hr : Lib.repeatL [8] (k + 1) = 8 :: Lib.repeatL [8] k := by simp [Lib.repeatL]
    rw [hr]
    refine Feeds.back _ x y (by omega) (feeds_back l y k (x.1, x.2 - 1) (by show k ≤ x.2 - 1; omega) ?_)
    show Feeds l (x.1, x.2 - 1 - k) y
    rw [show x.2 - 1 - k = x.2 - (k + 1) by omega]
    exact h
theorem feeds_moved {f t : Int} {l : List UInt8} {r : List UInt8} {k : Nat} {y : SC} (hf : f = (k : Int)) (ht : 0 ≤ t) (ht2 : t ≤ 200) (hk : k ≤ 200) (h : Feeds l (r, t.toNat) y) : Feeds (movedL f t ++ l) (r, k) y := by
  unfold movedL
  by_cases c1 : f = t
  · rw [if_pos c1]
    rw [show t.toNat = k by omega] at h
    exact h
  rw [if_neg c1]
  by_cases c2 : t = 0
  · rw [if_pos c2]
    subst c2
    exact Feeds.cr _ _ _ h
  rw [if_neg c2]
  by_cases c3 : f < t
  · rw [if_pos c3]
    refine Feeds.right (t - f) l (r, k) y (by omega) (by omega) ?_
    show Feeds l (r, k + (t - f).toNat) y
    rw [show k + (t - f).toNat = t.toNat by omega]
    exact h
  rw [if_neg c3]
  by_cases c4 : f - t ≤ 4
  · rw [if_pos c4]
    refine feeds_back l y _ (r, k) (by show (f - t).toNat ≤ k; omega) ?_
    show Feeds l (r, k - (f - t).toNat) y
    rw [show k - (f - t).toNat = t.toNat by omega]
    exact h
  · rw [if_neg c4]
    refine Feeds.cr _ (r, k) y (Feeds.right t l (r, 0) y (by omega) (by omega) ?_)
    show Feeds l (r, 0 + t.toNat) y
    rw [Nat.zero_add]
    exact h

/-- a terminal shows a row, the cursor in a column -/
def Sh (x : SC) (row : List UInt8) (col : Nat) : Prop := (∀ i, cellC x.1 i = cellC row i) ∧ x.2 = col

theorem comm_same : ∀ (r t : List UInt8) (i : Nat), i < comm r t → cellC r i = cellC t i
  | [], _, i, h => by simp [comm] at h
  | _ :: _, [], i, h => by simp [comm] at h
  | a :: r, b :: t, i, h => by
    unfold comm at h
    split at h
    · rename_i hab
      subst hab
      cases i with
      | zero => rfl
      | succ i => exact comm_same r t i (by omega)
    · omega
theorem cell_drop (r : List UInt8) (k i : Nat) : cellC (r.drop k) i = cellC r (k + i) := by
  unfold cellC; rw [List.getD_eq_getElem?_getD, List.getElem?_drop, List.getD_eq_getElem?_getD]
theorem cell_out {r : List UInt8} {i : Nat} (h : r.length ≤ i) : cellC r i = 32 := by
  unfold cellC; rw [List.getD_eq_getElem?_getD, List.getElem?_eq_none h]; rfl

/-- what Draw sends leaves on the terminal the row and the column that it was told -/
theorem draw_feeds {row tt : List UInt8} {col toCol : Nat} {x : SC} (hx : Sh x row col) (htt : ∀ c ∈ tt, 32 ≤ c.toNat ∧ c.toNat ≤ 126) (h : (drawL row col tt toCol).2 = 0) :
    ∃ y, Feeds (drawL row col tt toCol).1 x y ∧ Sh y tt toCol := by
  unfold drawL at h ⊢
  split at h
  · cases h
  rename_i h1
  rw [if_neg h1]
  split at h
  · cases h
  rename_i h2
  rw [if_neg h2]
  split at h
  · cases h
  rename_i h3
  rw [if_neg h3]
  simp only [not_or, Nat.not_lt, Classical.not_not] at h2 h3
  obtain ⟨r, k⟩ := x
  obtain ⟨hc, hk⟩ := hx
  dsimp only at hc hk
  subst hk
  by_cases he : row = tt
  · rw [if_pos he]
    refine ⟨(r, toCol), ?_, fun i => by rw [← he]; exact hc i, rfl⟩
    have := feeds_moved (f := (k : Int)) (t := (toCol : Int)) (l := []) (r := r) (k := k) (y := (r, toCol)) rfl (by omega) (by omega) (by omega) (by rw [Int.toNat_natCast]; exact Feeds.nil _)
    rwa [List.append_nil] at this
  · rw [if_neg he]
    have hcm := comm_le row tt
    have hsame := comm_same row tt
    generalize comm row tt = n at *
    have hlen : (tt.drop n).length = tt.length - n := List.length_drop
    obtain ⟨z, z1, z2, z3⟩ := feeds_text (tt.drop n) (r, n) (fun c hc => htt c (List.mem_of_mem_drop hc))
    have hz : z.2 = tt.length := by rw [z1, hlen]; show n + (tt.length - n) = tt.length; omega
    have hcell : ∀ i, cellC z.1 i = if i < tt.length then cellC tt i else cellC row i := fun i => by
      rw [z2 i, hlen]
      show (if n ≤ i ∧ i < n + (tt.length - n) then cellC (tt.drop n) (i - n) else cellC r i) = _
      by_cases a : n ≤ i ∧ i < n + (tt.length - n)
      · rw [if_pos a, if_pos (by omega), cell_drop, show n + (i - n) = i by omega]
      · rw [if_neg a, hc i]
        by_cases b : i < tt.length
        · rw [if_pos b, hsame i (by omega)]
        · rw [if_neg b]
    by_cases hl : tt.length < row.length
    · rw [if_pos hl]
      refine ⟨(z.1.take tt.length, toCol), ?_, fun i => ?_, rfl⟩
      · rw [List.append_assoc, List.append_assoc]
        refine feeds_moved rfl (by omega) (by omega) (by omega) ?_
        rw [Int.toNat_natCast]
        refine z3 _ _ ?_
        refine Feeds.erase _ z _ ?_
        rw [hz]
        have := feeds_moved (f := (tt.length : Int)) (t := (toCol : Int)) (l := []) (r := z.1.take tt.length) (k := tt.length) (y := (z.1.take tt.length, toCol)) rfl (by omega) (by omega) (by omega) (by rw [Int.toNat_natCast]; exact Feeds.nil _)
        rwa [List.append_nil] at this
      · show cellC (z.1.take tt.length) i = cellC tt i
        rw [cell_take, hcell]
        by_cases b : i < tt.length
        · rw [if_pos b, if_pos b]
        · rw [if_neg b, cell_out (by omega)]
    · rw [if_neg hl]
      refine ⟨(z.1, toCol), ?_, fun i => ?_, rfl⟩
      · rw [List.append_nil, List.append_assoc]
        refine feeds_moved rfl (by omega) (by omega) (by omega) ?_
        rw [Int.toNat_natCast]
        refine z3 _ _ ?_
        have := feeds_moved (f := (tt.length : Int)) (t := (toCol : Int)) (l := []) (r := z.1) (k := z.2) (y := (z.1, toCol)) (by rw [hz]) (by omega) (by omega) (by omega) (by rw [Int.toNat_natCast]; exact Feeds.nil _)
        rwa [List.append_nil] at this
      · show cellC z.1 i = cellC tt i
        rw [hcell]
        by_cases b : i < tt.length
        · rw [if_pos b]
        · rw [if_neg b, cell_out (r := row) (by omega), cell_out (r := tt) (by omega)]

/-- a row that ends with no blank is what is left of the terminal's row without the blanks at its end -/
theorem shown_trim {r row : List UInt8} (h : ∀ i, cellC r i = cellC row i) (hs : Lib.hasSuffix row [32] = false) : Lib.trimRightB r 32 = row := by
  have hrow : row = [] ∨ ∃ a b, row = a ++ [b] ∧ b ≠ 32 := by
    rcases List.eq_nil_or_concat row with e | ⟨a, b, e⟩
    · exact .inl e
    · refine .inr ⟨a, b, by rw [e]; simp, fun hb => ?_⟩
      subst hb
      subst e
      have hsf : [32].isSuffixOf (a.concat 32) = true := List.isSuffixOf_iff_suffix.2 ⟨a, by simp⟩
      unfold Lib.hasSuffix at hs
      rw [hsf] at hs
      cases hs
  have hle : row.length ≤ r.length := by
    rcases hrow with rfl | ⟨a, b, rfl, hb⟩
    · exact Nat.zero_le _
    · rcases Nat.lt_or_ge r.length (a ++ [b]).length with hl | hl
      · have := h a.length
        rw [cell_out (by simp at hl; omega)] at this
        simp [cellC] at this
        exact absurd this.symm hb
      · exact hl
  have htk : r.take row.length = row := by
    refine List.ext_getElem (by rw [List.length_take]; omega) fun i h1 h2 => ?_
    have := h i
    unfold cellC at this
    rw [List.getD_eq_getElem?_getD, List.getD_eq_getElem?_getD, List.getElem?_eq_getElem (by omega), List.getElem?_eq_getElem h2] at this
    rw [List.getElem_take]
    exact this
  rw [Lib.trimRightB_take r 32 row.length hle (fun j b hj hb => ?_) (fun b h0 hb => ?_), htk]
  · have := h j
    rw [cell_out hj] at this
    unfold cellC at this
    rw [List.getD_eq_getElem?_getD, hb] at this
    exact this
  · rcases hrow with rfl | ⟨a, c, rfl, hc⟩
    · simp at h0
    · have := h a.length
      unfold cellC at this
      simp only [List.length_append, List.length_cons, List.length_nil, Nat.zero_add, Nat.add_sub_cancel] at hb
      rw [List.getD_eq_getElem?_getD, hb] at this
      simp at this
      rw [this]
      exact hc
end Go.Proofs.YtokmiommhfbkeaaGreatDoor
