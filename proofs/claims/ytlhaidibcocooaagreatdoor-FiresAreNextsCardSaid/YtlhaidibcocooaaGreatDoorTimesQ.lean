/- Times, plain: what was joined with blanks is divided again by strings.FieldsFunc. (Begun; see NOTES.md.) -/
import Derived.Test.YtlhaidibcocooaaGreatDoorTimesP
namespace Go.Proofs.YtlhaidibcocooaaGreatDoor

theorem toB_size (l : List UInt8) : (toB l).size = l.length := by show l.toArray.size = _; simp
theorem toB_at (pre : List UInt8) (b : UInt8) (rest : List UInt8) (hb : b.toNat < 128) : pre.length < (toB (pre ++ b :: rest)).size ∧ Utf8.decode (toB (pre ++ b :: rest)) pre.length = (b.toNat, 1) := by
  have h : pre.length < (toB (pre ++ b :: rest)).size := by rw [toB_size]; simp
  have e : (toB (pre ++ b :: rest))[pre.length]'h = b := by
    show (pre ++ b :: rest).toArray[pre.length]'(by simp) = b
    simp
  refine ⟨h, ?_⟩
  rw [decode_ascii _ _ h (by rw [e]; exact hb), e]
variable {p : Nat → Bool}
theorem step_open (pre : List UInt8) (b : UInt8) (rest : List UInt8) (hb : b.toNat < 128) (hp : p b.toNat = false) (f a : Nat) (acc : List (Nat × Nat)) :
    Lib.spansFromP p (toB (pre ++ b :: rest)) (f + 1) pre.length (some a) acc = Lib.spansFromP p (toB (pre ++ b :: rest)) f (pre.length + 1) (some a) acc := by
  obtain ⟨h1, h2⟩ := toB_at pre b rest hb
  rw [Lib.spansFromP, if_pos h1, h2]
  simp [hp]
theorem step_start (pre : List UInt8) (b : UInt8) (rest : List UInt8) (hb : b.toNat < 128) (hp : p b.toNat = false) (f : Nat) (acc : List (Nat × Nat)) :
    Lib.spansFromP p (toB (pre ++ b :: rest)) (f + 1) pre.length none acc = Lib.spansFromP p (toB (pre ++ b :: rest)) f (pre.length + 1) (some pre.length) acc := by
  obtain ⟨h1, h2⟩ := toB_at pre b rest hb
  rw [Lib.spansFromP, if_pos h1, h2]
  simp [hp]
theorem step_close (pre : List UInt8) (b : UInt8) (rest : List UInt8) (hb : b.toNat < 128) (hp : p b.toNat = true) (f a : Nat) (acc : List (Nat × Nat)) :
    Lib.spansFromP p (toB (pre ++ b :: rest)) (f + 1) pre.length (some a) acc = Lib.spansFromP p (toB (pre ++ b :: rest)) f (pre.length + 1) none (acc ++ [(a, pre.length)]) := by
  obtain ⟨h1, h2⟩ := toB_at pre b rest hb
  rw [Lib.spansFromP, if_pos h1, h2]
  simp [hp]
theorem word_open (x pre rest : List UInt8) (hx : ∀ b ∈ x, b.toNat < 128 ∧ p b.toNat = false) (f a : Nat) (acc : List (Nat × Nat)) :
    Lib.spansFromP p (toB (pre ++ (x ++ rest))) (f + x.length) pre.length (some a) acc = Lib.spansFromP p (toB (pre ++ (x ++ rest))) f (pre.length + x.length) (some a) acc := by
  induction x generalizing pre with
  | nil => rfl
  | cons b x ih =>
    have hb := hx b (by simp)
    have h1 := step_open (p := p) pre b (x ++ rest) hb.1 hb.2 (f + x.length) a acc
    have h2 := ih (pre ++ [b]) (fun c hc => hx c (by simp [hc]))
    simp only [List.append_assoc, List.length_append, List.length_cons, List.length_nil, List.cons_append, List.nil_append] at h1 h2 ⊢
    rw [show f + (x.length + 1) = f + x.length + 1 by omega, h1, h2]
    congr 1
    omega
theorem word_all (x pre rest : List UInt8) (hne : x ≠ []) (hx : ∀ b ∈ x, b.toNat < 128 ∧ p b.toNat = false) (f : Nat) (acc : List (Nat × Nat)) :
    Lib.spansFromP p (toB (pre ++ (x ++ rest))) (f + x.length) pre.length none acc = Lib.spansFromP p (toB (pre ++ (x ++ rest))) f (pre.length + x.length) (some pre.length) acc := by
  cases x with
  | nil => exact absurd rfl hne
  | cons b x =>
    have hb := hx b (by simp)
    have h1 := step_start (p := p) pre b (x ++ rest) hb.1 hb.2 (f + x.length) acc
    have h2 := word_open (p := p) x (pre ++ [b]) rest (fun c hc => hx c (by simp [hc])) f pre.length acc
    simp only [List.append_assoc, List.length_append, List.length_cons, List.length_nil, List.cons_append, List.nil_append] at h1 h2 ⊢
    rw [show f + (x.length + 1) = f + x.length + 1 by omega, h1, h2]
    congr 1
    omega
theorem piece_at (pre x rest : List UInt8) : (toB (pre ++ (x ++ rest))).extract pre.length (pre.length + x.length) = toB x := by
  apply ByteArray.ext
  apply Array.toList_inj.1
  rw [Lib.extract_data]
  show ((pre ++ (x ++ rest)).drop pre.length).take (pre.length + x.length - pre.length) = x
  simp
theorem spans_join (c : UInt8) (hc : c.toNat < 128) (hpc : p c.toNat = true) (L : List (List UInt8)) (hL : ∀ x ∈ L, x ≠ [] ∧ ∀ b ∈ x, b.toNat < 128 ∧ p b.toNat = false) (pre : List UInt8) (acc : List (Nat × Nat)) (f : Nat) (hne : L ≠ []) :
    (Lib.closeSpans (toB (pre ++ Lib.join L [c])) (Lib.spansFromP p (toB (pre ++ Lib.join L [c])) (f + (Lib.join L [c]).length) pre.length none acc)).map (fun x => (toB (pre ++ Lib.join L [c])).extract x.1 x.2) = acc.map (fun x => (toB (pre ++ Lib.join L [c])).extract x.1 x.2) ++ L.map toB := by
  induction L generalizing pre acc with
  | nil => exact absurd rfl hne
  | cons x t ih =>
    have hx := hL x (by simp)
    cases t with
    | nil =>
      rw [Lib.join_one]
      have h1 := word_all (p := p) x pre [] hx.1 hx.2 f acc
      have h2 := piece_at pre x []
      rw [List.append_nil] at h1 h2
      rw [h1, Lib.spansFromP_end]
      · unfold Lib.closeSpans
        simp only [List.map_append, List.map_cons, List.map_nil]
        rw [show (toB (pre ++ x)).size = pre.length + x.length by rw [toB_size]; simp, h2]
      · rw [toB_size]; simp
    | cons y t =>
      have hj := join_two x y t c
      have h1 := word_all (p := p) x pre (c :: Lib.join (y :: t) [c]) hx.1 hx.2 (f + (Lib.join (y :: t) [c]).length + 1) acc
      have h2 := step_close (p := p) (pre ++ x) c (Lib.join (y :: t) [c]) hc hpc (f + (Lib.join (y :: t) [c]).length) pre.length acc
      have h3 := piece_at pre x (c :: Lib.join (y :: t) [c])
      have h4 := ih (fun z hz => hL z (by simp [hz])) (pre ++ x ++ [c]) (acc ++ [(pre.length, pre.length + x.length)]) (by simp)
      rw [hj]
      simp only [List.append_assoc, List.length_append, List.length_cons, List.length_nil, List.cons_append, List.nil_append, List.map_append, List.map_cons, List.map_nil] at h1 h2 h3 h4 ⊢
      rw [show f + (x.length + ((Lib.join (y :: t) [c]).length + 1)) = f + (Lib.join (y :: t) [c]).length + 1 + x.length by omega, h1, h2]
      rw [show pre.length + (x.length + (0 + 1)) = pre.length + x.length + 1 by omega] at h4
      rw [h4, h3]
/-- strings.FieldsFunc of texts that are joined by one byte -/
theorem fields_join (c : UInt8) (hc : c.toNat < 128) (hpc : p c.toNat = true) (L : List (List UInt8)) (hne : L ≠ []) (hL : ∀ x ∈ L, x ≠ [] ∧ ∀ b ∈ x, b.toNat < 128 ∧ p b.toNat = false) : Lib.goFieldsP p (toB (Lib.join L [c])) = L.map toB := by
  have h := spans_join (p := p) c hc hpc L hL [] [] 0 hne
  unfold Lib.goFieldsP Lib.spansOfP
  simp only [List.nil_append, List.length_nil, Nat.zero_add, List.map_nil] at h
  rw [toB_size]
  exact h

end Go.Proofs.YtlhaidibcocooaaGreatDoor
