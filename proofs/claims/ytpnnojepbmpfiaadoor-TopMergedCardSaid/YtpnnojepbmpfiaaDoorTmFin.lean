/- TopMerged, plain: a side without changes, and a side twice: what is merged is that side. -/
import Derived.Test.YtpnnojepbmpfiaaDoorTmMrg
namespace Go.Proofs.YtpnnojepbmpfiaaDoor

theorem filter_one {base : List ByteArray} : ∀ {X : List HK} {c : Nat} {h : HK}, Apart base c X → h ∈ X → X.filter (fun k => decide (h.fr ≤ k.fr ∧ k.fin ≤ h.fin)) = [h]
  | [], _, _, _, hm => by cases hm
  | k :: X, c, h, hA, hm => by
    have hk : k.fr ≤ k.fin := Nat.le_add_right _ _
    rcases List.mem_cons.1 hm with e | hm
    · subst e
      rw [List.filter_cons_of_pos (by simp)]
      have : X.filter (fun k => decide (h.fr ≤ k.fr ∧ k.fin ≤ h.fin)) = [] := by
        rw [List.filter_eq_nil_iff]
        intro k hk
        have := (apart_after hA.2.2.2 k hk).1
        have h2 : k.fr ≤ k.fin := Nat.le_add_right _ _
        simp
        omega
      rw [this]
    · have h1 := (apart_after hA.2.2.2 h hm).1
      rw [List.filter_cons_of_neg (by simp; omega)]
      exact filter_one hA.2.2.2 hm
theorem side_own {base : List ByteArray} {X : List HK} {c : Nat} {h : HK} (hA : Apart base c X) (hm : h ∈ X) : sideT base h.st X = h.new := by
  have hb := (apart_after hA h hm).2
  have hs : sideH h.st X = [⟨h.fr - h.fr, 0, h.old, h.new⟩] := by
    show (X.filter fun k => decide (h.fr ≤ k.fr ∧ k.fin ≤ h.fin)).map _ = _
    rw [filter_one hA hm]
    rfl
  unfold sideT
  rw [hs, Nat.sub_self]
  show (((base.drop h.fr).take (h.fin - h.fr)).drop 0).take (0 - 0) ++ h.new ++ ((base.drop h.fr).take (h.fin - h.fr)).drop (0 + h.old.length) = h.new
  have hl : ((base.drop h.fr).take (h.fin - h.fr)).length = h.old.length := by
    rw [List.length_take, List.length_drop]
    unfold HK.fin at *
    omega
  rw [Nat.sub_self, List.take_zero, List.nil_append, List.drop_of_length_le (by omega), List.append_nil]
theorem fold_sure {base : List ByteArray} {X Y : List HK} {c0 : Nat} (hX : Apart base c0 X) (hY : ∀ h ∈ X, sideH h.st Y = [] ∨ sideT base h.st X = sideT base h.st Y) :
    ∀ (x : List HK) (c : Nat) (acc : List ByteArray), (∀ h ∈ x, h ∈ X) → Apart base c x → surR ((x.map HK.st).foldl (stepM base X Y) (c, oneP acc)).2 (base.drop ((x.map HK.st).foldl (stepM base X Y) (c, oneP acc)).1) = oneP (acc ++ repL base c x)
  | [], c, acc, _, _ => sur_one acc (base.drop c)
  | h :: x, c, acc, hm, hA => by
    have hh := hm h List.mem_cons_self
    have h1 : stepM base X Y (c, oneP acc) h.st = (h.fin, oneP (acc ++ ((base.drop c).take (h.fr - c) ++ h.new))) := by
      unfold stepM
      rw [if_pos (hY h hh), side_own hX hh]
      refine Prod.ext rfl ?_
      show surR (surR (oneP acc) ((base.drop c).take (h.fr - c))) h.new = _
      rw [sur_one, sur_one, List.append_assoc]
    rw [List.map_cons, List.foldl_cons, h1, fold_sure hX hY x h.fin _ (fun k hk => hm k (List.mem_cons_of_mem _ hk)) (hA.2.2.2.less (Nat.le_succ _))]
    rw [List.append_assoc]
    rfl
theorem merge_none {base : List ByteArray} {X : List HK} (hX : Apart base 0 X) : mergeR base X [] = oneP (repL base 0 X) := by
  unfold mergeR
  rw [regs_none hX]
  have := fold_sure hX (Y := []) (fun h _ => .inl rfl) X 0 [] (fun h hh => hh) hX
  simpa [oneP] using this
theorem merge_self {base : List ByteArray} {X : List HK} (hX : Apart base 0 X) : mergeR base X X = oneP (repL base 0 X) := by
  unfold mergeR
  rw [regs_self hX]
  have := fold_sure hX (Y := X) (fun h _ => .inr rfl) X 0 [] (fun h hh => hh) hX
  simpa [oneP] using this
/-- the pieces of a merge, in their order -/
def mergeL (base a b : List ByteArray) : List PC := (mergeR base (diffL base a) (diffL base b)).reverse
theorem mergeL_swap (base a b : List ByteArray) : mergeL base b a = (mergeL base a b).map PC.swap := by
  unfold mergeL
  rw [merge_swap, List.map_reverse]
theorem mergeL_base (base a : List ByteArray) : mergeL base a base = oneP a := by
  unfold mergeL
  rw [diff_same, merge_none (diff_right base a).1, (diff_right base a).2]
  unfold oneP
  split <;> rfl
theorem mergeL_self (base a : List ByteArray) : mergeL base a a = oneP a := by
  unfold mergeL
  rw [merge_self (diff_right base a).1, (diff_right base a).2]
  unfold oneP
  split <;> rfl
end Go.Proofs.YtpnnojepbmpfiaaDoor
