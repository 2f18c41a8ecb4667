/- Times: the law's text is five fields, plain. (Begun; see NOTES.md.) -/
import Derived.Test.YtlhaidibcocooaaGreatDoorTextD
namespace Go.Proofs.YtlhaidibcocooaaGreatDoor
open Go.RowKit Go.Shelf

def fldP (F : Nat → List ByteArray) (i : Nat) : List UInt8 := (joinR (F i)).data.toList
theorem text_five (F : Nat → List ByteArray) : joinR (F 0) ++ ⟨#[32]⟩ ++ joinR (F 1) ++ ⟨#[32]⟩ ++ joinR (F 2) ++ ⟨#[32]⟩ ++ joinR (F 3) ++ ⟨#[32]⟩ ++ joinR (F 4) = toB (five (fldP F)) := by
  rw [five_text]
  apply ByteArray.ext
  apply Array.toList_inj.1
  simp [toB, fldP, ByteArray.data_append]
theorem fld_text (F : Nat → List ByteArray) (i : Nat) : fldP F i = Lib.join ((F i).map (·.data.toList)) [44] := by simp [fldP, joinR, toB]

/-- a byte of a number or a name -/
def okB (b : UInt8) : Prop := b.toNat < 128 ∧ blankP b.toNat = false ∧ b ≠ 42 ∧ b ≠ 44 ∧ b ≠ 45 ∧ b ≠ 47
theorem dig_okB {n : Nat} (h : n < 100) : Lib.decDigits n ≠ [] ∧ ∀ b ∈ Lib.decDigits n, okB b := by
  have hd := dig_ok h
  refine ⟨fun e => by rw [e] at hd; exact absurd hd.1 (by decide), fun b hb => ?_⟩
  have h1 := hd.2.2.1 b hb
  have hne : ∀ k : UInt8, k.toNat < 48 → b ≠ k := fun k hk e => by rw [e] at h1; omega
  refine ⟨by omega, ?_, hne 42 (by decide), hne 44 (by decide), hne 45 (by decide), hne 47 (by decide)⟩
  unfold blankP
  simp
  omega
theorem names_okB (i : Nat) : ∀ x ∈ namesN i, x.data.toList ≠ [] ∧ ∀ b ∈ x.data.toList, okB b := by
  unfold namesN okB blankP
  split
  · decide
  · split
    · decide
    · intro x hx; cases hx
theorem tok_okB {lo hi i : Nat} {s : ByteArray} (h : TokT lo hi (namesN i) s) (hhi : hi ≤ 59) : s.data.toList ≠ [] ∧ ∀ b ∈ s.data.toList, okB b := by
  rcases h with ⟨q, _, hq, rfl⟩ | h
  · simpa [toB] using dig_okB (n := q) (by omega)
  · exact names_okB i s h

/-- a byte of a part -/
def partB' (b : UInt8) : Prop := b.toNat < 128 ∧ blankP b.toNat = false ∧ b ≠ 44
theorem okB_part {b : UInt8} (h : okB b) : partB' b := ⟨h.1, h.2.1, h.2.2.2.1⟩
theorem partF_bytes {lo hi i : Nat} {p : ByteArray} (h : PartF lo hi (namesN i) p) (hhi : hi ≤ 59) : p.data.toList ≠ [] ∧ ∀ b ∈ p.data.toList, partB' b := by
  rcases h with rfl | ⟨n, hn, rfl⟩ | h | ⟨a, b, ha, hb, rfl⟩ | ⟨a, b, n, ha, hb, _, hn, rfl⟩
  · exact ⟨by simp [toB], by simp [toB, partB']; decide⟩
  · refine ⟨by simp [toB], fun c hc => ?_⟩
    have hc2 : c = 42 ∨ c = 47 ∨ c ∈ Lib.decDigits n := by simpa [toB] using hc
    rcases hc2 with rfl | rfl | hc
    · exact ⟨by decide, by decide, by decide⟩
    · exact ⟨by decide, by decide, by decide⟩
    · exact okB_part ((dig_okB (n := n) (by omega)).2 c hc)
  · have := tok_okB h hhi
    exact ⟨this.1, fun c hc => okB_part (this.2 c hc)⟩
  · have h1 := tok_okB ha hhi
    have h2 := tok_okB hb hhi
    refine ⟨by simp [ByteArray.data_append], fun c hc => ?_⟩
    have hc2 : c ∈ a.data.toList ∨ c = 45 ∨ c ∈ b.data.toList := by simpa [ByteArray.data_append, or_assoc] using hc
    rcases hc2 with hc | rfl | hc
    · exact okB_part (h1.2 c hc)
    · exact ⟨by decide, by decide, by decide⟩
    · exact okB_part (h2.2 c hc)
  · have h1 := tok_okB ha hhi
    have h2 := tok_okB hb hhi
    refine ⟨by simp [ByteArray.data_append], fun c hc => ?_⟩
    have hc2 : c ∈ a.data.toList ∨ c = 45 ∨ c ∈ b.data.toList ∨ c = 47 ∨ c ∈ Lib.decDigits n := by simpa [ByteArray.data_append, toB, or_assoc] using hc
    rcases hc2 with hc | rfl | hc | rfl | hc
    · exact okB_part (h1.2 c hc)
    · exact ⟨by decide, by decide, by decide⟩
    · exact okB_part (h2.2 c hc)
    · exact ⟨by decide, by decide, by decide⟩
    · exact okB_part ((dig_okB (n := n) (by omega)).2 c hc)

theorem fld_ok {F : Nat → List ByteArray} {i lo hi : Nat} (hne : F i ≠ []) (hp : ∀ p ∈ F i, PartF lo hi (namesN i) p) (hhi : hi ≤ 59) : okField (fldP F i) ∧ cutP (fldP F i) = F i := by
  have hb := fun p hpF => partF_bytes (hp p hpF) hhi
  rw [fld_text]
  refine ⟨⟨?_, fun b hbm => ?_⟩, ?_⟩
  · cases hF : F i with
    | nil => exact absurd hF hne
    | cons p r =>
      have h1 := (hb p (by rw [hF]; simp)).1
      cases r with
      | nil => simpa [Lib.join_one] using h1
      | cons q r => rw [List.map_cons, List.map_cons, join_two]; simp
  · exact join_bytes (q := fun b => b.toNat < 128 ∧ blankP b.toNat = false) 44 (by decide) ((F i).map (·.data.toList)) (fun x hx b hbx => by
      obtain ⟨p, hpF, rfl⟩ := List.mem_map.1 hx
      have := (hb p hpF).2 b hbx
      exact ⟨this.1, this.2.1⟩) b hbm
  · have h := (splitB_join 44 ((F i).map (·.data.toList)) (by simpa using hne) (fun x hx hc => by
      obtain ⟨p, hpF, rfl⟩ := List.mem_map.1 hx
      exact ((hb p hpF).2 44 hc).2.2 rfl)).1
    rw [List.map_map] at h
    have e : (F i).map (toB ∘ fun x => x.data.toList) = F i := by
      have : ∀ M : List ByteArray, M.map (toB ∘ fun x => x.data.toList) = M := fun M => by
        induction M with
        | nil => rfl
        | cons a t ih => rw [List.map_cons, ih]; rfl
      exact this _
    rw [e] at h
    exact h
theorem fld_len {F : Nat → List ByteArray} {i lo hi : Nat} (hl : (F i).length ≤ 3) (hp : ∀ p ∈ F i, PartF lo hi (namesN i) p) (hhi : hi ≤ 59) : (fldP F i).length ≤ 400 := by
  have := joinR_size hl hp hhi (names_small i)
  have e : (fldP F i).length = (joinR (F i)).size := size_toList _
  omega

end Go.Proofs.YtlhaidibcocooaaGreatDoor
