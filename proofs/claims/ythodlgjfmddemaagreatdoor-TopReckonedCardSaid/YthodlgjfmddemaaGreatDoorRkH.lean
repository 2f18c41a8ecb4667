/- Reading a decimal: whether all are digits, the cut at the full stop. -/
import Derived.Test.YthodlgjfmddemaaGreatDoorRkZg
import Derived.Shelf.Strings.SlTrimAscii
import Derived.Lib.IndexLaws
namespace Go.Proofs.YthodlgjfmddemaaGreatDoor.Rk
open Go.RowKit

abbrev tenDigs : List UInt8 := [48, 49, 50, 51, 52, 53, 54, 55, 56, 57]
theorem tenDigs_has (c : UInt8) : tenDigs.contains c = (decide (48 ≤ c) && decide (c ≤ 57)) := by
  have h : ∀ n, n < 256 → tenDigs.contains (UInt8.ofNat n) = (decide (48 ≤ UInt8.ofNat n) && decide (UInt8.ofNat n ≤ 57)) := by decide +kernel
  have := h c.toNat c.toNat_lt
  rwa [UInt8.ofNat_toNat] at this
theorem dropWhile_all {l : List UInt8} {p : UInt8 → Bool} (h : ∀ x ∈ l, p x = true) : l.dropWhile p = [] := by
  induction l with
  | nil => rfl
  | cons c l ih => rw [List.dropWhile_cons, if_pos (h c (List.mem_cons_self ..))]; exact ih fun x hx => h x (List.mem_cons_of_mem _ hx)
theorem all_dropWhile {l : List UInt8} {p : UInt8 → Bool} (h : ∀ x ∈ l.dropWhile p, p x = true) : ∀ x ∈ l, p x = true := by
  induction l with
  | nil => intro x hx; cases hx
  | cons c l ih =>
    rw [List.dropWhile_cons] at h
    by_cases hc : p c = true
    · rw [if_pos hc] at h
      intro x hx
      rcases List.mem_cons.1 hx with rfl | hx
      · exact hc
      · exact ih h x hx
    · rw [if_neg hc] at h
      exact absurd (h c (List.mem_cons_self ..)) hc
theorem dropWhile_nil {l : List UInt8} {p : UInt8 → Bool} (h : l.dropWhile p = []) : ∀ x ∈ l, p x = true := all_dropWhile (by rw [h]; intro x hx; cases hx)
theorem trim_digs {l : List UInt8} (h0 : l ≠ []) : Lib.trimS l tenDigs = [] ↔ isDigB l = true := by
  have hall : isDigB l = true ↔ ∀ x ∈ l, tenDigs.contains x = true := by
    unfold isDigB
    rw [Bool.and_eq_true, List.all_eq_true]
    refine ⟨fun h x hx => by rw [tenDigs_has]; exact h.2 x hx, fun h => ⟨by simpa using h0, fun x hx => by have := h x hx; rwa [tenDigs_has] at this⟩⟩
  rw [hall]
  unfold Lib.trimS Lib.trimLeftS Lib.trimRightS
  refine ⟨fun h => ?_, fun h => ?_⟩
  · have h1 := dropWhile_nil h
    have h2 : ∀ x ∈ l.reverse.dropWhile (tenDigs.contains ·), tenDigs.contains x = true := fun x hx => h1 x (List.mem_reverse.2 hx)
    have h3 := all_dropWhile h2
    exact fun x hx => h3 x (List.mem_reverse.2 hx)
  · have : l.reverse.dropWhile (tenDigs.contains ·) = [] := dropWhile_all fun x hx => h x (List.mem_reverse.1 hx)
    rw [this]
    rfl
theorem trim_any (s : List UInt8) (w : World) (hs : s.length ≤ 9223372036854775807) :
    Calls Tryz.prog 77 #[.string (toB s), .string ⟨#[48, 49, 50, 51, 52, 53, 54, 55, 56, 57]⟩] w fun e w' => e = .returned (.string (toB (Lib.trimS s tenDigs))) ∧ Below w.heap.size w w' := by
  have hall : ∀ b ∈ tenDigs, b.toNat < 128 := by decide
  refine (Any.strings_Trim_ascii Tryz.lays160 (fun w => by kernel_rfl) (by kernel_rfl) (toB s) ⟨#[48, 49, 50, 51, 52, 53, 54, 55, 56, 57]⟩ w (by rw [toB_size]; exact hs) (by decide) (fun j b hb => hall b (List.mem_of_getElem? hb))).mono ?_
  rintro e w' ⟨rfl, hb⟩
  exact ⟨rfl, hb⟩
set_option maxRecDepth 100000 in
set_option maxHeartbeats 1600000 in
theorem isDigits_any (s : List UInt8) (w : World) (hs : s.length ≤ 9223372036854775807) :
    Calls Tryz.prog 49 #[.string (toB s)] w fun e w' => e = .returned (.bool (isDigB s)) ∧ Below w.heap.size w w' := by
  by_cases h0 : s = []
  · subst h0
    have hi : isDigB [] = false := rfl
    rw [hi]
    have hem0 : (toB []).toList.isEmpty = true := by simp [toB, ByteArray.toList_eq]
    have hem1 : (toB []).toList = [] := by simp [toB, ByteArray.toList_eq]
    have HB := Lib.hid (fun n => below_drewN (Below.refl w.heap.size w) n)
    go_enter Tryz.func49, Tryz.ntmps49
    go_wp2_with fail
    go_ret
    first | exact ⟨rfl, HB.out 0⟩ | exact ⟨rfl, HB.out 1⟩ | exact ⟨rfl, HB.out 2⟩
  · have hem0 : (toB s).toList.isEmpty = false := by simp [toB, ByteArray.toList_eq, h0]
    have hem1 : ¬ (toB s).toList = [] := by simp [toB, ByteArray.toList_eq, h0]
    obtain ⟨r, hr⟩ : ∃ r, r = isDigB s := ⟨_, rfl⟩
    have ht : (toB (Lib.trimS s tenDigs)).toList.isEmpty = r := by
      rw [hr, Bool.eq_iff_iff, ← trim_digs h0]
      simp [toB, ByteArray.toList_eq]
    have HT := Lib.hid (fun W => trim_any s W hs)
    rw [← hr]
    clear hr h0
    generalize Lib.trimS s tenDigs = T at *
    go_enter Tryz.func49, Tryz.ntmps49
    go_wp2_with (go_at_call 77; refine (HT.out _).mono ?_; rintro e w2 ⟨rfl, hb⟩)
    go_ret
    exact ⟨rfl, hb⟩
end Go.Proofs.YthodlgjfmddemaaGreatDoor.Rk
