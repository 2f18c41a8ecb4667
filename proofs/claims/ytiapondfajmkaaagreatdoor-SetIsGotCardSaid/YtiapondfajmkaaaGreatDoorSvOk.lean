/- Shell states, plain: which are right; what Set makes of a right one is right. -/
import Derived.Test.YtiapondfajmkaaaGreatDoorSvB
import Derived.Lib.IndexLaws
namespace Go.Proofs.YtiapondfajmkaaaGreatDoor
open Go.RowKit

/-- all texts of a state -/
def textsV (L : List VarV) : List ByteArray := L.flatMap fun v => v.nm :: v.vl :: v.ls
def textsL (S : ShV) : List ByteArray := S.nm :: S.dr :: (S.ar ++ textsV S.vs)
/-- a right state, whose directory is right -/
structure okS (S : ShV) : Prop where
  noz : ∀ s ∈ textsL S, noZ s
  vs : S.vs.length ≤ 200
  ar : S.ar.length ≤ 1000
  sz : sizeS S ≤ 65536
  names : ∀ v ∈ S.vs, nameOK v.nm
  rises : Rises S.vs
  lists : ∀ v ∈ S.vs, (v.il = false → v.ls.length = 0) ∧ (v.il = true → v.vl.size = 0)
  op : 0 ≤ S.op ∧ S.op ≤ 31
  st : 0 ≤ S.st ∧ S.st ≤ 255
  msk : 0 ≤ S.msk ∧ S.msk ≤ 511
theorem setV_len (L : List VarV) (v : VarV) : (setV L v).length ≤ L.length + 1 := by
  unfold setV
  split
  · rw [List.length_append, List.length_cons, List.length_take, List.length_drop]
    omega
  · rw [List.length_append, List.length_cons, List.length_take, List.length_drop]
    omega
theorem sumV_app (a b : List VarV) : sumV (a ++ b) = sumV a + sumV b := by
  unfold sumV
  rw [List.map_append, List.sum_append]
theorem sumV_cons (a : VarV) (b : List VarV) : sumV (a :: b) = sizeV a + sumV b := by
  unfold sumV
  rw [List.map_cons, List.sum_cons]
theorem sumV_drop_le (L : List VarV) (k : Nat) : sumV (L.drop k) + sumV (L.take k) = sumV L := by
  have := sumV_app (L.take k) (L.drop k)
  rw [List.take_append_drop] at this
  omega
theorem sumV_drop_le2 (L : List VarV) (k : Nat) : sumV (L.drop (k + 1)) ≤ sumV (L.drop k) := by
  have h := sumV_drop_le (L.drop k) 1
  rw [List.drop_drop] at h
  omega
theorem sumV_setV (L : List VarV) (v : VarV) : sumV (setV L v) ≤ sumV L + sizeV v := by
  have h1 := sumV_drop_le L (cntV L v.nm)
  have h2 := sumV_drop_le2 L (cntV L v.nm)
  unfold setV
  rw [sumV_app, sumV_cons]
  split <;> omega
/-- the state in which a variable is set -/
def putS (S : ShV) (v : VarV) : ShV := { S with vs := setV S.vs v }
theorem okS_put {S : ShV} {v : VarV} (h : okS S) (hn : nameOK v.nm) (hz : noZ v.nm) (hz2 : noZ v.vl) (hl : v.ls = []) (hil : v.il = false) (h1 : (putS S v).vs.length ≤ 200) (h2 : sizeS (putS S v) ≤ 65536) : okS (putS S v) := by
  refine ⟨fun s hs => ?_, h1, h.ar, h2, fun x hx => ?_, Rises.of_pair (setV_pair h.rises.pair v), fun x hx => ?_, h.op, h.st, h.msk⟩
  · have hs0 := h.noz s
    unfold textsL at hs hs0
    rcases List.mem_cons.1 hs with e | hs
    · exact hs0 (by rw [e]; exact List.mem_cons_self)
    rcases List.mem_cons.1 hs with e | hs
    · exact hs0 (by rw [e]; exact List.mem_cons_of_mem _ List.mem_cons_self)
    rcases List.mem_append.1 hs with hs | hs
    · exact hs0 (List.mem_cons_of_mem _ (List.mem_cons_of_mem _ (List.mem_append_left _ hs)))
    obtain ⟨x, hx, hs2⟩ := List.mem_flatMap.1 hs
    rcases mem_setV hx with e | hx
    · rw [e, hl] at hs2
      rcases List.mem_cons.1 hs2 with e | hs3
      · rw [e]; exact hz
      rcases List.mem_cons.1 hs3 with e | hs4
      · rw [e]; exact hz2
      · cases hs4
    · exact hs0 (List.mem_cons_of_mem _ (List.mem_cons_of_mem _ (List.mem_append_right _ (List.mem_flatMap.2 ⟨x, hx, hs2⟩))))
  · rcases mem_setV hx with e | hx
    · rw [e]; exact hn
    · exact h.names x hx
  · rcases mem_setV hx with e | hx
    · rw [e]; exact ⟨fun _ => by rw [hl]; rfl, fun e => by rw [hil] at e; cases e⟩
    · exact h.lists x hx
/-- a name has no byte 0 -/
theorem noZ_of {s : ByteArray} (h : ∀ i (h : i < s.size), s[i] ≠ 0) : noZ s := by
  intro h0
  obtain ⟨o, ho⟩ := Int.eq_ofNat_of_zero_le h0
  have h1 := (Lib.indexByte_some ho).1
  obtain ⟨hi, he⟩ := List.getElem?_eq_some_iff.1 h1
  exact h o (by simpa using hi) he
theorem noZ_name {s : ByteArray} (h : nameOK s) : noZ s := noZ_of fun i hi e => by
  have := h.2.2 i hi
  rw [e] at this
  unfold letU digU at this
  simp at this
/-- a small right state -/
theorem Small.of_ok {S : ShV} (h : okS S) (hl : ∀ v ∈ S.vs, v.ls.length ≤ 2000) : Small S := ⟨by have := h.ar; omega, by have := h.vs; omega, hl, by have := h.sz; omega⟩
theorem Small.put {S : ShV} (h : Small S) {v : VarV} (hv : sizeV v ≤ 2305843009213693951) (h2 : sizeS S ≤ 2305843009213693951) (hl : v.ls.length ≤ 2000) (hn : S.vs.length ≤ 1999) : Small (putS S v) := by
  refine ⟨h.ar, ?_, fun x hx => ?_, ?_⟩
  · have := setV_len S.vs v
    show (setV S.vs v).length ≤ 2000
    omega
  · rcases mem_setV hx with e | hx
    · rw [e]; exact hl
    · exact h.ls x hx
  · have := sumV_setV S.vs v
    rw [sizeS_eq] at h2 ⊢
    show sumS S.ar + sumV (setV S.vs v) ≤ _
    omega
end Go.Proofs.YtiapondfajmkaaaGreatDoor
