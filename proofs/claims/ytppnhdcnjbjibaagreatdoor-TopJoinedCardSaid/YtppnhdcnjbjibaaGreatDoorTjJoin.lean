/- TopJoined: a text is joined with itself. -/
import Derived.Test.YtppnhdcnjbjibaaGreatDoorTjAdd
namespace Go.Proofs.YtppnhdcnjbjibaaGreatDoor
open Go.RowKit

/-- the keys of rows -/
def keysR (K : List R3) : List (List UInt8) := K.map fun r => bl r.1
theorem bl_inj {a b : ByteArray} (h : bl a = bl b) : a = b := by rw [← toB_bl a, h, toB_bl]
theorem pairs_le (K : List (List UInt8)) : pairsOf K ≤ K.length * K.length := by
  unfold pairsOf
  have : ∀ (M : List (List UInt8)), (M.map fun k => K.count k).sum ≤ M.length * K.length := fun M => by
    induction M with
    | nil => simp
    | cons x t ih =>
      rw [List.map_cons, List.sum_cons, List.length_cons, Nat.succ_mul]
      have := List.count_le_length (a := x) (l := K)
      omega
  exact this K
/-- the group at the head -/
theorem group_step (r : R3) (K : List R3) (ok : ∀ z ∈ r :: K, okR z) (up : KeysUp (r :: K)) : ∃ g, 1 ≤ g ∧ g ≤ (r :: K).length ∧ (∀ j (h : j < (r :: K).length), j < g → (r :: K)[j].1 = r.1) ∧ (∀ h : g < (r :: K).length, (r :: K)[g].1 ≠ r.1) ∧
    pairsOf (keysR (r :: K)) = g * g + pairsOf (keysR ((r :: K).drop g)) ∧ KeysUp ((r :: K).drop g) := by
  obtain ⟨m, R, h1, h2⟩ := group_of 200 (bl r.1) (keysR K) (fun x hx => by
    have hx2 : x ∈ keysR (r :: K) := hx
    obtain ⟨z, hz, rfl⟩ := List.mem_map.1 hx2
    have := (ok z hz).1.1
    rw [bl_size]
    omega) up
  have hk : keysR (r :: K) = List.replicate (m + 1) (bl r.1) ++ R := h1
  have hlen : (r :: K).length = m + 1 + R.length := by
    have := congrArg List.length hk
    rw [List.length_append, List.length_replicate] at this
    unfold keysR at this
    rwa [List.length_map] at this
  have hat : ∀ j (h : j < (r :: K).length), bl (r :: K)[j].1 = (List.replicate (m + 1) (bl r.1) ++ R)[j]'(by rw [List.length_append, List.length_replicate]; omega) := fun j h => by
    have e : (keysR (r :: K))[j]? = (List.replicate (m + 1) (bl r.1) ++ R)[j]? := by rw [hk]
    unfold keysR at e
    rw [List.getElem?_map, List.getElem?_eq_getElem h, List.getElem?_eq_getElem (by rw [List.length_append, List.length_replicate]; omega)] at e
    exact Option.some.inj e
  have hdrop : keysR ((r :: K).drop (m + 1)) = R := by
    unfold keysR
    rw [List.map_drop]
    rw [show (r :: K).map (fun r => bl r.1) = List.replicate (m + 1) (bl r.1) ++ R from hk]
    rw [List.drop_append_of_le_length (by simp), List.drop_of_length_le (by simp)]
    rfl
  refine ⟨m + 1, by omega, by omega, fun j h hj => bl_inj ?_, fun h e => ?_, ?_, ?_⟩
  · rw [hat j h, List.getElem_append_left (by simpa using hj), List.getElem_replicate]
  · have := hat (m + 1) h
    rw [List.getElem_append_right (by simp)] at this
    exact h2 (by rw [← e, this]; exact List.getElem_mem _)
  · rw [hdrop, hk]
    exact pairs_group (bl r.1) (m + 1) R h2
  · unfold KeysUp at up ⊢
    rw [List.map_drop]
    exact up.sublist (List.drop_sublist _ _)
/-- lines that may be joined -/
def LineOk (t : ByteArray) : Prop := (10 : UInt8) ∉ bl t ∧ t.size ≤ 1000
theorem lnJ_ok {p q : R3} (hp : okR p) (hq : okR q) : LineOk (lnJ p q) := by
  unfold lnJ LineOk
  rw [bl_toB, toB_size]
  have h1 := hp.1.1
  have h2 := hp.2.1.1
  have h3 := hp.2.2.1
  have h4 := hq.2.1.1
  have h5 := hq.2.2.1
  have n1 := hp.1.2.2
  have n2 := hp.2.1.2.2
  have n3 := hp.2.2.2.2
  have n4 := hq.2.1.2.2
  have n5 := hq.2.2.2.2
  refine ⟨?_, ?_⟩
  · simp only [join_two, Lib.join_one, List.mem_append, List.mem_cons]
    simp only [n1, n2, n3, n4, n5, or_false, false_or]
    decide
  · simp only [join_two, Lib.join_one, List.length_append, List.length_cons, bl_size]
    omega
/-- where a record of a list lies -/
theorem RV.rec {w : World} {b off n c : Nat} {P : List RP} (h : RV w (.slice (some ⟨b, off, none⟩) n c) P) (j : Nat) (hj : j < P.length) : RecAt w b (off + j * 2) P[j] := by
  obtain ⟨b', o', c', e, _, h1, h2⟩ := h.at j hj
  injection e with e1 _ _
  injection e1 with e1
  injection e1 with e1 e2 _
  subst e1 e2
  exact ⟨h1, h2, h.2 _ (List.getElem_mem hj)⟩
end Go.Proofs.YtppnhdcnjbjibaaGreatDoor
