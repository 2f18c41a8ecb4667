/- Times, the reference: what the law's text is made of is read: numbers and names. -/
import Derived.Test.YtlhaidibcocooaaGreatDoorTextF
namespace Go.Proofs.YtlhaidibcocooaaGreatDoor
open Go.RowKit Go.Shelf

theorem nm_list {W : World} {g n : Nat} {NM : List ByteArray} (h : NmAt W (.slice (some ⟨g, 0, none⟩) n n)) (hn : NM.length = n) (hd : NM = monthsL ∨ NM = daysL) : g < W.heap.size ∧ ∀ j, j < NM.length → W.cell? ⟨g, 0 + j, none⟩ = some (.string (NM.getD j ByteArray.empty)) := by
  obtain ⟨A, c, NM', he, _, h2, _, h4⟩ := h
  injection he with e1 e2 e3
  have hl3 : monthsL.length = 12 := rfl
  have hl7 : daysL.length = 7 := rfl
  have e : NM' = NM := by
    rcases hd with rfl | rfl <;> rcases h4 with rfl | rfl | rfl <;> first | rfl | (simp at *; omega)
  subst e
  have h0 : 0 < NM'.length := by rcases hd with rfl | rfl <;> decide
  obtain ⟨g', off, e4, hg, hc⟩ := h2 h0
  subst e1
  injection e4 with e5
  injection e5 with e6 e7 _
  subst e6 e7
  exact ⟨hg, hc⟩
theorem name_num (low high k g n : Nat) (NM : List ByteArray) (x : ByteArray) (W : World) (hlow : low ≤ 100) (hk : k ≤ 100) (hn : NM.length = n) (hd : NM = monthsL ∨ NM = daysL) (hx : x.size ≤ 3) (ha : ∀ b ∈ x.data.toList, b.toNat < 128)
    (hi : Lib.idxOfS NM ⟨(Lib.toLowerA x.data.toList).toArray⟩ = (k : Int)) (h : NmAt W (.slice (some ⟨g, 0, none⟩) n n)) :
    Calls Tryz.prog 68 #[.agg #[.int .i64 (low : Int), .int .i64 (high : Int), .slice (some ⟨g, 0, none⟩) n n], .string x] W fun e w' => e = .returned (.tuple #[.int .i64 ((k : Int) + (low : Int)), .int .i64 2]) ∧ Below W.heap.size W w' := by
  obtain ⟨hg, hc⟩ := nm_list h hn hd
  have hlen : NM.length ≤ 12 := by rcases hd with rfl | rfl <;> decide
  subst hn
  refine number_name low high k x ⟨(Lib.toLowerA x.data.toList).toArray⟩ (some ⟨g, 0, none⟩) NM.length NM W hlow hk (fun W2 => ?_) (fun W2 hW2 => ?_)
  · exact Tryz.strings_ToLower_ascii x W2 (by omega) (fun j b hb => ha b (List.mem_of_getElem? hb))
  · refine (Tryz.slices_Index_string g 0 NM.length NM.length NM ⟨(Lib.toLowerA x.data.toList).toArray⟩ W2 (Nat.le_refl _) (by omega) (fun j hj => (hW2.cell (p := ⟨g, 0 + j, none⟩) hg).trans (hc j hj))).mono ?_
    rintro e w' ⟨rfl, rfl⟩
    rw [List.take_length, hi]
    exact ⟨rfl, rfl⟩
/-- the place of a name that the law uses -/
def nameAt (x : ByteArray) : Nat := if x = ⟨#[106, 97, 110]⟩ then 0 else if x = ⟨#[70, 101, 98]⟩ then 1 else if x = ⟨#[68, 69, 67]⟩ then 11 else if x = ⟨#[115, 117, 110]⟩ then 0 else if x = ⟨#[77, 111, 110]⟩ then 1 else 6
theorem mon_facts : ∀ x ∈ monN, x.size ≤ 3 ∧ (∀ b ∈ x.data.toList, b.toNat < 128) ∧ Lib.idxOfS monthsL ⟨(Lib.toLowerA x.data.toList).toArray⟩ = (nameAt x : Int) ∧ nameAt x ≤ 11 := by decide +kernel
theorem day_facts : ∀ x ∈ dayN, x.size ≤ 3 ∧ (∀ b ∈ x.data.toList, b.toNat < 128) ∧ Lib.idxOfS daysL ⟨(Lib.toLowerA x.data.toList).toArray⟩ = (nameAt x : Int) ∧ nameAt x ≤ 11 := by decide +kernel
theorem low_top (i : Nat) (hi : i < 5) : lowV i = .int .i64 (lowN i : Int) ∧ topV i = .int .i64 (topR i : Int) ∧ lowN i ≤ 1 ∧ lowN i ≤ topR i ∧ topR i ≤ 59 := by
  have hh : i = 0 ∨ i = 1 ∨ i = 2 ∨ i = 3 ∨ i = 4 := by omega
  rcases hh with rfl | rfl | rfl | rfl | rfl <;> exact ⟨rfl, rfl, by decide, by decide, by decide⟩
theorem toB_list (x : ByteArray) : toB x.data.toList = x := rfl
/-- a number or a name of a field is read -/
theorem tok_reads (g1 g2 i : Nat) (hi : i < 5) (x : ByteArray) (h : TokT (lowN i) (topR i) (namesN i) x) : ∃ n, Tok (lowN i) (topR i) (nmV g1 g2 i) x.data.toList n := by
  obtain ⟨_, _, hl1, _, ht⟩ := low_top i hi
  have hb := tok_okB h ht
  rcases h with ⟨q, h1, h2, rfl⟩ | h
  · refine ⟨q, fun W hW => ?_, by omega, ?_, fun b hbm => hb.2 b hbm⟩
    · exact number_any (lowN i) (topR i) q (nmV g1 g2 i) W (by omega) h1 h2 hW
    · have := (dig_ok (n := q) (by omega)).2.1
      show (Lib.decDigits q).length ≤ 3
      omega
  · have hh : i = 0 ∨ i = 1 ∨ i = 2 ∨ i = 3 ∨ i = 4 := by omega
    rcases hh with rfl | rfl | rfl | rfl | rfl
    · cases h
    · cases h
    · cases h
    · obtain ⟨f1, f2, f3, f4⟩ := mon_facts x h
      refine ⟨nameAt x + 1, fun W hW => ?_, by omega, by rw [size_toList]; omega, fun b hbm => hb.2 b hbm⟩
      exact name_num 1 12 (nameAt x) g1 12 monthsL x W (by omega) (by omega) rfl (.inl rfl) f1 f2 f3 hW
    · obtain ⟨f1, f2, f3, f4⟩ := day_facts x h
      refine ⟨nameAt x, fun W hW => ?_, by omega, by rw [size_toList]; omega, fun b hbm => hb.2 b hbm⟩
      have := name_num 0 7 (nameAt x) g2 7 daysL x W (by omega) (by omega) rfl (.inr rfl) f1 f2 f3 hW
      rw [show ((nameAt x : Nat) : Int) + ((0 : Nat) : Int) = ((nameAt x : Nat) : Int) by omega] at this
      exact this

end Go.Proofs.YtlhaidibcocooaaGreatDoor
