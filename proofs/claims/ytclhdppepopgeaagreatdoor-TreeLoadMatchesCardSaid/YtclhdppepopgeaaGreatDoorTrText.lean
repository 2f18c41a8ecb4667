/- The tree's lists: the text of a node, and whether an entry is right. (Printed by tools/gtrfe.py.) -/
import Derived.Test.YtclhdppepopgeaaGreatDoorTrSmall
import Derived.Laws.StructEq
import Derived.Deep.DeepCutAuto
namespace Go.Proofs.YtclhdppepopgeaaGreatDoor
open Go.RowKit

/-- an entry as a value -/
abbrev feV (e : FE) : Value := .agg #[.string e.path, .int .i64 e.kind, .int .i64 e.mode, .int .i64 e.user, .int .i64 e.group, .string e.text, .int .i64 e.changed, .string e.same]
/-- a code that is 0 just if something is so -/
def Code0 (b : Bool) (w : World) (e : Ending) (w' : World) : Prop := ∃ k : Int, e = .returned (.int .i64 k) ∧ decide (k = 0) = b ∧ Below w.heap.size w w'
theorem empty_dec (s : ByteArray) : (s.toList == []) = decide (s = noneB) := by rw [← beq_dec, ByteArray.toList_eq noneB]; rfl

set_option maxRecDepth 100000 in
set_option maxHeartbeats 3200000 in
theorem textFor_any (kind : Int) (s : ByteArray) (w : World) (hs : s.size ≤ maxLen) :
    Calls Tryz.prog 37 #[.int .i64 kind, .string s] w (Code0 (textOk kind s) w) := by
  have HI := Lib.hid (fun W => isName_any s W hs)
  have HC := Lib.hid (fun W => Tryz.strings_Contains_one s 0 W)
  have HC2 : Hid (decide (0 ≤ Lib.indexByte s.data.toList 0) = s.data.toList.contains 0) := Lib.hid (Lib.contains_iff_indexByte _ _).symm
  rw [HC2.out] at HC
  have hemp := empty_dec s
  obtain ⟨R, hR⟩ : ∃ R, R = textOk kind s := ⟨_, rfl⟩
  rw [← hR]
  unfold textOk at hR
  obtain ⟨bn, hbn⟩ : ∃ b, b = nameOk s := ⟨_, rfl⟩
  rw [← hbn] at HI hR
  obtain ⟨bz, hbz⟩ : ∃ b, b = s.data.toList.contains 0 := ⟨_, rfl⟩
  rw [← hbz] at HC hR
  obtain ⟨be, hbe⟩ : ∃ b, b = decide (s = noneB) := ⟨_, rfl⟩
  have hbe2 : decide (s ≠ noneB) = !be := by rw [hbe]; simp
  rw [← hbe] at hR hemp
  rw [hbe2] at hR
  have HR := Lib.hid hR
  clear hR hbn hbz hbe hbe2 HC2
  by_cases h0 : 65536 < s.size
  · have h0z : (65536 : Int) < (s.size : Int) := by omega
    have hf := Lib.hid (show R = false by rw [HR.out]; simp [h0])
    clear h0
    go_enter Tryz.func37, Tryz.ntmps37
    go_wp2_with fail
    go_ret
    exact ⟨_, rfl, by rw [hf.out]; rfl, Below.refl _ _⟩
  · have h0z : ¬ (65536 : Int) < (s.size : Int) := by omega
    by_cases h3 : kind = 3
    · subst h3
      by_cases h2 : 256 < s.size
      · have h2z : (256 : Int) < (s.size : Int) := by omega
        have hf := Lib.hid (show R = false by rw [HR.out]; simp [h2])
        clear h0 h2
        go_enter Tryz.func37, Tryz.ntmps37
        go_wp2_with fail
        go_ret
        exact ⟨_, rfl, by rw [hf.out]; rfl, Below.refl _ _⟩
      · have h2z : ¬ (256 : Int) < (s.size : Int) := by omega
        cases be with
        | true =>
          have hf := Lib.hid (show R = false by rw [HR.out]; simp)
          clear h0 h2
          go_enter Tryz.func37, Tryz.ntmps37
          go_wp2_with fail
          go_ret
          exact ⟨_, rfl, by rw [hf.out]; rfl, Below.refl _ _⟩
        | false =>
          cases bz with
          | true =>
            have hf := Lib.hid (show R = false by rw [HR.out]; simp)
            clear h0 h2
            go_enter Tryz.func37, Tryz.ntmps37
            go_wp2_with fail
            refine (HC.out _).mono ?_
            rintro e w1 ⟨rfl, rfl⟩
            go_wp2_with fail
            go_ret
            exact ⟨_, rfl, by rw [hf.out]; rfl, Below.refl _ _⟩
          | false =>
            have hf := Lib.hid (show R = true by rw [HR.out]; simp [h0, h2])
            clear h0 h2
            go_enter Tryz.func37, Tryz.ntmps37
            go_wp2_with fail
            refine (HC.out _).mono ?_
            rintro e w1 ⟨rfl, rfl⟩
            go_wp2_with fail
            go_ret
            exact ⟨_, rfl, by rw [hf.out]; rfl, Below.refl _ _⟩
    · have h3b : (kind == 3) = false := beq_eq_false_iff_ne.2 h3
      by_cases h4 : kind = 4
      · subst h4
        cases bn with
        | false =>
          have hf := Lib.hid (show R = false by rw [HR.out]; simp)
          clear h0
          go_enter Tryz.func37, Tryz.ntmps37
          go_wp2_with fail
          refine (HI.out _).mono ?_
          rintro e w1 ⟨rfl, hb⟩
          have HB := Lib.hid hb
          clear hb
          go_wp2_with fail
          go_ret
          exact ⟨_, rfl, by rw [hf.out]; rfl, HB.out⟩
        | true =>
          have hf := Lib.hid (show R = true by rw [HR.out]; simp [h0])
          clear h0
          go_enter Tryz.func37, Tryz.ntmps37
          go_wp2_with fail
          refine (HI.out _).mono ?_
          rintro e w1 ⟨rfl, hb⟩
          have HB := Lib.hid hb
          clear hb
          go_wp2_with fail
          go_ret
          exact ⟨_, rfl, by rw [hf.out]; rfl, HB.out⟩
      · have h4b : (kind == 4) = false := beq_eq_false_iff_ne.2 h4
        by_cases h2 : kind = 2
        · subst h2
          cases be with
          | true =>
            have hf := Lib.hid (show R = true by rw [HR.out]; simp [h0])
            clear h0
            go_enter Tryz.func37, Tryz.ntmps37
            go_wp2_with fail
            go_ret
            exact ⟨_, rfl, by rw [hf.out]; rfl, Below.refl _ _⟩
          | false =>
            have hf := Lib.hid (show R = false by rw [HR.out]; simp)
            clear h0
            go_enter Tryz.func37, Tryz.ntmps37
            go_wp2_with fail
            go_ret
            exact ⟨_, rfl, by rw [hf.out]; rfl, Below.refl _ _⟩
        · have h2b : (kind == 2) = false := beq_eq_false_iff_ne.2 h2
          have hf := Lib.hid (show R = true by rw [HR.out, h3b, h4b, h2b]; simp [h0])
          clear h0
          go_enter Tryz.func37, Tryz.ntmps37
          go_wp2_with fail
          go_ret
          exact ⟨_, rfl, by rw [hf.out]; rfl, Below.refl _ _⟩

def FeAt (w : World) (x : Nat) (e : FE) : Prop := w.heap[x]? = some (.cells #[.string e.path, .int .i64 e.kind, .int .i64 e.mode, .int .i64 e.user, .int .i64 e.group, .string e.text, .int .i64 e.changed, .string e.same] 33 (0, 0))
theorem FeAt.keep {w w' : World} {x : Nat} {e : FE} (h : FeAt w x e) (hb : Below w.heap.size w w') : FeAt w' x e := (hb.block x (Array.getElem?_eq_some_iff.1 h).1).trans h
theorem FeAt.cells {w : World} {x : Nat} {e : FE} (h : FeAt w x e) : w.cell? ⟨x, 0, none⟩ = some (.string e.path) ∧ w.cell? ⟨x, 1, none⟩ = some (.int .i64 e.kind) ∧ w.cell? ⟨x, 2, none⟩ = some (.int .i64 e.mode) ∧ w.cell? ⟨x, 3, none⟩ = some (.int .i64 e.user) ∧ w.cell? ⟨x, 4, none⟩ = some (.int .i64 e.group) ∧ w.cell? ⟨x, 5, none⟩ = some (.string e.text) ∧ w.cell? ⟨x, 6, none⟩ = some (.int .i64 e.changed) ∧ w.cell? ⟨x, 7, none⟩ = some (.string e.same) := by
  unfold FeAt at h
  refine ⟨?_, ?_, ?_, ?_, ?_, ?_, ?_, ?_⟩ <;> simp [World.cell?, h]
end Go.Proofs.YtclhdppepopgeaaGreatDoor
