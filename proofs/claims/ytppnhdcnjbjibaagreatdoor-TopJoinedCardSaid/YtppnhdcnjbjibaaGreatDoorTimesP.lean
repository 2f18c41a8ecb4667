/- Times, the reference, plain: what was joined is divided again, at commas and at blanks. (Begun; see NOTES.md.) -/
import Derived.Lib.SplitLaws
import Derived.Lib.Join
import Derived.Lib.FieldsP
import Derived.Laws.RangeString
namespace Go.Proofs.YtppnhdcnjbjibaaGreatDoor

theorem join_two (x y : List UInt8) (t : List (List UInt8)) (c : UInt8) : Lib.join (x :: y :: t) [c] = x ++ c :: Lib.join (y :: t) [c] := by
  simp [Lib.join, List.intercalate]
theorem index_byte (x r : List UInt8) (c : UInt8) (h : c ∉ x) : Lib.index (x ++ c :: r) [c] = (x.length : Int) := by
  induction x with
  | nil => rw [List.nil_append, Lib.index]; simp [List.isPrefixOf]
  | cons b x ih =>
    have hb : b ≠ c := fun e => h (by simp [e])
    have hx : c ∉ x := fun e => h (by simp [e])
    have ih := ih hx
    have hp : ([c] : List UInt8).isPrefixOf (b :: (x ++ c :: r)) = false := by simp [List.isPrefixOf, Ne.symm hb]
    rw [List.cons_append, Lib.index, hp, ih]
    have : ((x.length : Int) == -1) = false := by rw [beq_eq_false_iff_ne]; omega
    rw [this]
    simp
theorem index_none (x : List UInt8) (c : UInt8) (h : c ∉ x) : Lib.index x [c] = -1 := by
  induction x with
  | nil => simp [Lib.index]
  | cons b x ih =>
    have hb : b ≠ c := fun e => h (by simp [e])
    have hp : ([c] : List UInt8).isPrefixOf (b :: x) = false := by simp [List.isPrefixOf, Ne.symm hb]
    rw [Lib.index, hp, ih (fun e => h (by simp [e]))]
    simp
theorem count_join (c : UInt8) (L : List (List UInt8)) (h : ∀ x ∈ L, c ∉ x) : (Lib.join L [c]).count c = L.length - 1 := by
  induction L with
  | nil => simp [Lib.join, List.intercalate]
  | cons x t ih =>
    cases t with
    | nil => rw [Lib.join_one]; exact List.count_eq_zero_of_not_mem (h x (by simp))
    | cons y t =>
      have ih := ih (fun z hz => h z (by simp [hz]))
      rw [join_two, List.count_append, List.count_cons_self, ih, List.count_eq_zero_of_not_mem (h x (by simp))]
      simp
theorem splitK_join (c : UInt8) (L : List (List UInt8)) (hne : L ≠ []) (h : ∀ x ∈ L, c ∉ x) : Lib.splitK [c] 0 (L.length - 1) (Lib.join L [c]) = L := by
  induction L with
  | nil => exact absurd rfl hne
  | cons x t ih =>
    cases t with
    | nil => rw [Lib.join_one]; rfl
    | cons y t =>
      have ih := ih (by simp) (fun z hz => h z (by simp [hz]))
      have hi := index_byte x (Lib.join (y :: t) [c]) c (h x (by simp))
      have hb : ((x.length : Int) == -1) = false := by rw [beq_eq_false_iff_ne]; omega
      have e1 : (x :: y :: t).length - 1 = ((y :: t).length - 1) + 1 := by simp
      rw [e1, join_two, Lib.splitK, hi, hb]
      simp only [Bool.false_eq_true, if_false, Int.toNat_natCast, Nat.add_zero, List.length_cons, List.length_nil, Nat.zero_add]
      have e2 : (x ++ c :: Lib.join (y :: t) [c]).take x.length = x := List.take_left
      have e3 : (x ++ c :: Lib.join (y :: t) [c]).drop (x.length + 1) = Lib.join (y :: t) [c] := by
        rw [← List.drop_drop, List.drop_left]; rfl
      rw [e2, e3]
      have e4 : (y :: t).length - 1 = t.length + 1 - 1 := by simp
      rw [e4] at ih
      rw [ih]
/-- a list of bytes as a text -/
def toB (l : List UInt8) : ByteArray := ⟨l.toArray⟩
theorem splitB_join (c : UInt8) (L : List (List UInt8)) (hne : L ≠ []) (h : ∀ x ∈ L, c ∉ x) : Lib.splitB ⟨#[c]⟩ 0 (Lib.countB (toB (Lib.join L [c])) ⟨#[c]⟩) (toB (Lib.join L [c])) = L.map toB ∧ Lib.countB (toB (Lib.join L [c])) ⟨#[c]⟩ = L.length - 1 := by
  have hc : Lib.countB (toB (Lib.join L [c])) ⟨#[c]⟩ = L.length - 1 := by
    show Lib.count (Lib.join L [c]) [c] = _
    rw [Lib.count_one, count_join c L h]
  refine ⟨?_, hc⟩
  have h1 := Lib.splitB_data ⟨#[c]⟩ 0 (Lib.countB (toB (Lib.join L [c])) ⟨#[c]⟩) (toB (Lib.join L [c]))
  rw [hc] at h1 ⊢
  have h2 : Lib.splitK (⟨#[c]⟩ : ByteArray).data.toList 0 (L.length - 1) (toB (Lib.join L [c])).data.toList = L := splitK_join c L hne h
  rw [h2] at h1
  have h3 : ∀ M : List ByteArray, M = (M.map (·.data.toList)).map toB := fun M => by
    rw [List.map_map]
    induction M with
    | nil => rfl
    | cons a t ih => rw [List.map_cons, ← ih]; rfl
  rw [h3 (Lib.splitB _ _ _ _), h1]

end Go.Proofs.YtppnhdcnjbjibaaGreatDoor
