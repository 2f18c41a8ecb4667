/- The program's editor: any good key that changes the text. -/
import Derived.Test.YtokmiommhfbkeaaGreatDoorEditD
import Derived.Test.YtokmiommhfbkeaaGreatDoorEdit
namespace Go.Proofs.YtokmiommhfbkeaaGreatDoor
open Go.RowKit

theorem keyE_kind {kind byte : Int} (h : keyE kind byte = 0) : 1 ≤ kind ∧ kind ≤ 22 := by
  unfold keyE at h
  split at h
  · omega
  · rename_i hk
    have hk : withinB kind 1 22 = true := by simpa using hk
    simp [withinB] at hk
    exact hk
theorem keyE_byte {kind byte : Int} (h : keyE kind byte = 0) (hk : kind = 1 ∨ kind = 22) : ∃ c : UInt8, byte = c.toNat := by
  have hb : 0 ≤ byte ∧ byte ≤ 255 := by
    rcases hk with rfl | rfl
    · simp [keyE, withinB] at h
      omega
    · simp [keyE, withinB] at h
      omega
  refine ⟨UInt8.ofNat byte.toNat, ?_⟩
  rw [UInt8.toNat_ofNat']
  have : byte.toNat % 256 = byte.toNat := Nat.mod_eq_of_lt (by omega)
  simp only [Nat.reducePow]
  omega
theorem change_any (d : ED) (kind byte : Int) (was : Bool) (bv hv : Value) (place : Int) (begun : ByteArray) (b : Nat) (w : World) (h : Box w b (edC d bv place begun hv)) (ha : d.a ≤ d.text.size) (ht : d.text.size ≤ 1000) (hkl : d.killed.size ≤ 1000)
    (hk : keyE kind byte = 0) (hm : movesB kind = false) (h19 : ¬ kind = 19) (h20 : ¬ kind = 20) (h21 : ¬ kind = 21) :
    Calls Tryz.prog 37 #[.pointer (some ⟨b, 0, none⟩), .agg #[.int .i64 kind, .int .i64 byte], .bool was] w (ChangePost w b (actD kind byte was d) bv place begun hv) := by
  have hr := keyE_kind hk
  simp [movesB] at hm
  have hor : (kind = 1 ∨ kind = 22) ∨ kind = 6 ∨ kind = 7 ∨ kind = 8 ∨ kind = 9 ∨ kind = 10 ∨ kind = 11 ∨ kind = 12 ∨ kind = 13 ∨ kind = 16 ∨ kind = 17 ∨ kind = 18 := by omega
  rcases hor with h1 | rfl | rfl | rfl | rfl | rfl | rfl | rfl | rfl | rfl | rfl | rfl
  · obtain ⟨c, rfl⟩ := keyE_byte hk h1
    exact change_ins d kind c was bv hv place begun b w h ha ht h1
  · exact change_6 d byte was bv hv place begun b w h ha ht hkl
  · exact change_7 d byte was bv hv place begun b w h ha ht hkl
  · exact change_8 d byte was bv hv place begun b w h ha ht hkl
  · exact change_9 d byte was bv hv place begun b w h ha ht hkl
  · exact change_10 d byte was bv hv place begun b w h ha ht hkl
  · exact change_11 d byte was bv hv place begun b w h ha ht hkl
  · exact change_12 d byte was bv hv place begun b w h ha ht hkl
  · exact change_13 d byte was bv hv place begun b w h ha ht hkl
  · exact change_16 d byte was bv hv place begun b w h ha ht hkl
  · exact change_17 d byte was bv hv place begun b w h ha ht hkl
  · exact change_18 d byte was bv hv place begun b w h ha ht hkl
theorem actD_move {kind : Int} (h : movesB kind = true) (byte : Int) (was : Bool) (d : ED) : actD kind byte was d = actD kind 0 false d ∧ (actD kind byte was d).text = d.text ∧ (actD kind byte was d).killed = d.killed ∧ (actD kind byte was d).killing = d.killing := by
  simp [movesB] at h
  have hor : kind = 2 ∨ kind = 3 ∨ kind = 4 ∨ kind = 5 ∨ kind = 14 ∨ kind = 15 := by omega
  rcases hor with rfl | rfl | rfl | rfl | rfl | rfl <;> exact ⟨rfl, rfl, rfl, rfl⟩

end Go.Proofs.YtokmiommhfbkeaaGreatDoor
