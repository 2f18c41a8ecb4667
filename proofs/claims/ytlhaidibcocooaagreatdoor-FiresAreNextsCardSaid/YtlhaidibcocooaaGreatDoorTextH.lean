/- Times, the reference: ParseTimes of the law's text gives some times, or an error. -/
import Derived.Test.YtlhaidibcocooaaGreatDoorTextG
import Derived.Test.YtlhaidibcocooaaGreatDoorTimesZ
namespace Go.Proofs.YtlhaidibcocooaaGreatDoor
open Go.RowKit Go.Shelf

theorem nm_form (g1 g2 i : Nat) (hi : i < 5) : ∃ A l c, nmV g1 g2 i = .slice A l c := (forms_at g1 g2 i hi).2.2
theorem up_small (low top n : Nat) (h : top < 64) : orL 0 (upL low top n) < 18446744073709551616 := orL_lt _ 0 64 (fun k hk => by have := upL_lt low top n k hk; omega) (by decide)
theorem pw_of {w : World} {b : Nat} {e : Ending} {w' : World} (hb : b < 18446744073709551616) (h : e = .returned (.tuple #[.int .u64 (b : Int), .int .i64 0]) ∧ Below w.heap.size w w') : PW w e w' := ⟨b, 0, h.1, hb, h.2⟩
/-- each part of the law's text is read without a panic -/
theorem part_reads (g1 g2 i : Nat) (hi : i < 5) (s : ByteArray) (w : World) (h : PartF (lowN i) (topR i) (namesN i) s) (hnm : NmAt w (nmV g1 g2 i)) (hm : MaxLenAt w) :
    Calls Tryz.prog 30 #[.agg #[lowV i, topV i, nmV g1 g2 i], .string s] w (PW w) := by
  obtain ⟨e1, e2, hl1, hlt, ht⟩ := low_top i hi
  have hv := nm_form g1 g2 i hi
  rw [e1, e2]
  rcases h with rfl | ⟨n, hn, rfl⟩ | h | ⟨a, b, ha, hb, rfl⟩ | ⟨a, b, n, ha, hb, hn1, hn, rfl⟩
  · exact (part_star (lowN i) (topR i) _ w hlt (by omega) hv hm).mono fun e w' h => pw_of (up_small _ _ _ (by omega)) h
  · rcases Nat.eq_zero_or_pos n with rfl | h0
    · rw [show Lib.decDigits 0 = [48] by decide +kernel]
      exact pt_star0 (lowN i) (topR i) _ w (by omega) hv hnm hm
    · exact (part_starBy (lowN i) (topR i) n _ w hlt (by omega) h0 (by omega) hv hm).mono fun e w' h => pw_of (up_small _ _ _ (by omega)) h
  · obtain ⟨q, hq⟩ := tok_reads g1 g2 i hi s h
    exact pt_tok (lowN i) (topR i) _ s.data.toList q w (by omega) hq hv hnm hm
  · obtain ⟨q, hq⟩ := tok_reads g1 g2 i hi a ha
    obtain ⟨r, hr⟩ := tok_reads g1 g2 i hi b hb
    have := pt_range (lowN i) (topR i) _ a.data.toList b.data.toList q r w (by omega) hq hr hv hnm hm
    rw [show toB (a.data.toList ++ 45 :: b.data.toList) = a ++ ⟨#[45]⟩ ++ b by
      apply ByteArray.ext
      apply Array.toList_inj.1
      simp [toB, ByteArray.data_append]] at this
    exact this
  · obtain ⟨q, hq⟩ := tok_reads g1 g2 i hi a ha
    obtain ⟨r, hr⟩ := tok_reads g1 g2 i hi b hb
    have := pt_rangeBy (lowN i) (topR i) _ a.data.toList b.data.toList q r n w (by omega) hq hr hn1 (by omega) hv hnm hm
    rw [show toB ((a.data.toList ++ 45 :: b.data.toList) ++ 47 :: Lib.decDigits n) = a ++ ⟨#[45]⟩ ++ b ++ ⟨#[47]⟩ ++ toB (Lib.decDigits n) by
      apply ByteArray.ext
      apply Array.toList_inj.1
      simp [toB, ByteArray.data_append]] at this
    exact this
theorem parts_give (F : Nat → List ByteArray) (hF : ∀ i, i < 5 → F i ≠ [] ∧ (F i).length ≤ 3 ∧ ∀ p ∈ F i, PartF (lowN i) (topR i) (namesN i) p) : PartGives (fun _ _ _ => True) True (fldP F) := by
  intro W g1 g2 i j acc s hi hs _ hnm hm
  have ht := (low_top i hi).2.2.2.2
  rw [(fld_ok (hF i hi).1 (hF i hi).2.2 ht).2] at hs
  refine (part_reads g1 g2 i hi s W ((hF i hi).2.2 s (List.mem_of_getElem? hs)) hnm hm).mono ?_
  rintro e w' ⟨b, er, rfl, hb, hbl⟩
  exact ⟨b, er, rfl, hb, fun _ => trivial, fun _ => trivial, hbl⟩
/-- what reading the law's text gives: some times, or an error -/
def SomeTimes (w : World) (e : Ending) (w' : World) : Prop :=
  ((∃ (a0 a1 a2 a3 a4 : Nat) (b5 b6 : Bool), e = .returned (.tuple #[.agg #[.int .u64 (a0 : Int), .int .u64 (a1 : Int), .int .u64 (a2 : Int), .int .u64 (a3 : Int), .int .u64 (a4 : Int), .bool b5, .bool b6], .int .i64 0]) ∧ a0 < 18446744073709551616 ∧ a1 < 18446744073709551616 ∧ a2 < 18446744073709551616 ∧ a3 < 18446744073709551616 ∧ a4 < 18446744073709551616) ∨
    (∃ er : Nat, er ≠ 0 ∧ e = .returned (.tuple #[.agg zeroT, .int .i64 (er : Int)]))) ∧ Below w.heap.size w w'
theorem foldW_lt (a : Nat) (h : a < 18446744073709551616) : foldW true a < 18446744073709551616 := by
  unfold foldW
  split
  · have h1 : a &&& 127 < 2 ^ 7 := Nat.lt_of_le_of_lt Nat.and_le_right (by decide)
    have h2 := Nat.or_lt_two_pow h1 (show 1 < 2 ^ 7 by decide)
    omega
  · exact h
theorem text_reads (F : Nat → List ByteArray) (hF : ∀ i, i < 5 → F i ≠ [] ∧ (F i).length ≤ 3 ∧ ∀ p ∈ F i, PartF (lowN i) (topR i) (namesN i) p) (w : World) (hm : MaxLenAt w) :
    Calls Tryz.prog 10 #[.string (joinR (F 0) ++ ⟨#[32]⟩ ++ joinR (F 1) ++ ⟨#[32]⟩ ++ joinR (F 2) ++ ⟨#[32]⟩ ++ joinR (F 3) ++ ⟨#[32]⟩ ++ joinR (F 4))] w (SomeTimes w) := by
  rw [text_five]
  have ht : ∀ i, i < 5 → topR i ≤ 59 := fun i hi => (low_top i hi).2.2.2.2
  have hl : ∀ i, i < 5 → (fldP F i).length ≤ 400 := fun i hi => fld_len (hF i hi).2.1 (hF i hi).2.2 (ht i hi)
  refine (parse_any (fun _ _ _ => True) True (fldP F) w (fun _ _ => trivial) (fun i hi => (fld_ok (hF i hi).1 (hF i hi).2.2 (ht i hi)).1) ?_ hm (parts_give F hF)).mono ?_
  · rw [five_text]
    have h0 := hl 0 (by decide)
    have h1 := hl 1 (by decide)
    have h2 := hl 2 (by decide)
    have h3 := hl 3 (by decide)
    have h4 := hl 4 (by decide)
    simp
    omega
  · rintro e w' ⟨⟨st, hst, rfl⟩ | ⟨_, er, her, rfl⟩, hb⟩
    · exact ⟨.inl ⟨_, _, _, _, _, _, _, rfl, (hst 0 (by decide)).2, (hst 1 (by decide)).2, (hst 2 (by decide)).2, (hst 3 (by decide)).2, foldW_lt _ (hst 4 (by decide)).2⟩, hb⟩
    · exact ⟨.inr ⟨er, her, rfl⟩, hb⟩

end Go.Proofs.YtlhaidibcocooaaGreatDoor
