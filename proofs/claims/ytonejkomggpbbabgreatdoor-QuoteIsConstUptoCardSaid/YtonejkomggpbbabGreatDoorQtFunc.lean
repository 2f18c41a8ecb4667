/- QuoteIsConst, plain: strings.ContainsFunc of Quote's closure tells whether a byte of the text wants quotes. -/
import Derived.Test.YtonejkomggpbbabGreatDoorQtLaw
import Derived.Shelf.Strings.FuncGrows
import Derived.Laws.RangeAny
namespace Go.Proofs.YtonejkomggpbbabGreatDoor
open Go.RowKit Go.Shelf

theorem pN_low (c : UInt8) (h : c.toNat < 128) : pN c.toNat = !plB c := by
  unfold pN
  simp [h]
theorem pN_high (x : Nat) (h : 128 ≤ x) : pN x = true := by
  unfold pN
  simp [show ¬ x < 128 by omega]
theorem idx_plain (s : ByteArray) : ∀ (f pos : Nat), s.size - pos ≤ f → decide (0 ≤ Lib.idxFuncFrom pN true s f pos) = !(s.data.toList.drop pos).all plB
  | 0, pos, h => by
    have hl : s.data.toList.length = s.size := by simp
    rw [List.drop_eq_nil_of_le (by omega)]
    rfl
  | f + 1, pos, h => by
    have hl : s.data.toList.length = s.size := by simp
    unfold Lib.idxFuncFrom
    by_cases hp : pos < s.size
    · rw [if_pos hp, List.drop_eq_getElem_cons (by omega : pos < s.data.toList.length)]
      have he : s.data.toList[pos]'(by omega) = s[pos] := rfl
      rw [he, List.all_cons]
      by_cases hx : s[pos].toNat < 128
      · rw [decode_ascii s pos hp hx]
        dsimp only
        rw [pN_low _ hx]
        cases hb : plB s[pos]
        · rw [if_pos (by rfl)]
          simp
        · rw [if_neg (by simp), idx_plain s f (pos + 1) (by omega)]
          simp
      · obtain ⟨h1, h2⟩ := decode_high s pos hp (by omega)
        rw [pN_high _ h1, if_pos rfl, plB_high _ (by omega)]
        simp
    · rw [if_neg hp, List.drop_eq_nil_of_le (by omega)]
      rfl
theorem idxFunc_plain (s : ByteArray) : decide (0 ≤ Lib.idxFunc pN true s) = !s.data.toList.all plB := by
  have := idx_plain s s.size 0 (by omega)
  rwa [List.drop_zero] at this
end Go.Proofs.YtonejkomggpbbabGreatDoor
