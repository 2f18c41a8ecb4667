/- Times: Trim by the ten digits. (Begun; see NOTES.md.) -/
import Derived.Test.YtlhaidibcocooaaGreatDoorTimesG
import Derived.Test.YtlhaidibcocooaaGreatDoorShelf
import Derived.Shelf.Strings.SlTrimAscii
namespace Go.Proofs.YtlhaidibcocooaaGreatDoor
open Go.RowKit Go.Shelf
theorem below_two (w : World) (a b : Obj) (q : Nat) : Below w.heap.size w (((w.alloc a).alloc b).drewN q) := by
  have h := ((Below.refl w.heap.size w).alloc (Nat.le_refl _) a).alloc (by simp) b
  exact ⟨h.os, h.tape, h.output, h.size, h.block⟩
set_option maxRecDepth 100000 in
theorem trim_digits (k : Nat) (hk : k < 100) (w : World) : Calls Tryz.prog 27 #[.string ⟨(Lib.decDigits k).toArray⟩, .string ⟨#[48, 49, 50, 51, 52, 53, 54, 55, 56, 57]⟩] w fun e w' => e = .returned (.string ⟨#[]⟩) ∧ Below w.heap.size w w' := by
  have hd := dig_ok hk
  have hsz : (⟨(Lib.decDigits k).toArray⟩ : ByteArray).size = (Lib.decDigits k).length := by show (Lib.decDigits k).toArray.size = _; rw [List.size_toArray]
  refine (Any.strings_Trim_set Tryz.lays160 (fun w => by kernel_rfl) (by kernel_rfl) ⟨(Lib.decDigits k).toArray⟩ ⟨#[48, 49, 50, 51, 52, 53, 54, 55, 56, 57]⟩ w (by decide) (by omega) (by omega) (by decide) ?_).mono ?_
  · intro j b hb
    have hall : ∀ b ∈ ([48, 49, 50, 51, 52, 53, 54, 55, 56, 57] : List UInt8), b.toNat < 128 := by decide
    exact hall b (List.mem_of_getElem? hb)
  · rintro e w' ⟨rfl, q, rfl⟩
    refine ⟨?_, ?_⟩
    · have : Lib.trimS (⟨(Lib.decDigits k).toArray⟩ : ByteArray).data.toList (⟨#[48, 49, 50, 51, 52, 53, 54, 55, 56, 57]⟩ : ByteArray).data.toList = [] := hd.2.2.2.2.2
      rw [this]
    · exact below_two w _ _ q
end Go.Proofs.YtlhaidibcocooaaGreatDoor
