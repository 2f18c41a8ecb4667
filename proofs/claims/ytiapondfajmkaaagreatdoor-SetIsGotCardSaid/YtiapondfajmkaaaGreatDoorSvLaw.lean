/- Shell states, plain: texts in order, variables in a sorted list, what is right, what Set makes. -/
import Derived.Test.YtiapondfajmkaaaGreatDoorBase
import Derived.Sort.Walk0
import Derived.Lib.Bytealg
import Derived.Lib.SlicesS
namespace Go.Proofs.YtiapondfajmkaaaGreatDoor
open Go.RowKit

/-- a text comes ahead of another one -/
def lessS (a b : ByteArray) : Bool := Op.bytesLess a.toList b.toList
theorem toList_inj {a b : ByteArray} (h : a.toList = b.toList) : a = b := by
  have := (Lib.bytes_beq_iff a b).1 (by rw [h]; exact beq_self_eq_true _)
  exact this
theorem lessS_lt (a b : ByteArray) : lessS a b = true ↔ a.toList < b.toList := by
  unfold lessS
  rw [bytesLess_eq]
  exact decide_eq_true_iff
theorem lessS_irrefl (a : ByteArray) : lessS a a = false := by
  cases h : lessS a a with
  | false => rfl
  | true => exact absurd ((lessS_lt a a).1 h) (List.lt_irrefl _)
theorem lessS_trans {a b c : ByteArray} (h : lessS a b = true) (k : lessS b c = true) : lessS a c = true :=
  (lessS_lt a c).2 (List.lt_trans ((lessS_lt a b).1 h) ((lessS_lt b c).1 k))
theorem lessS_tri {a b : ByteArray} (h : lessS a b = false) (k : lessS b a = false) : a = b := by
  refine toList_inj ?_
  have h1 : ¬ a.toList < b.toList := fun e => by rw [(lessS_lt a b).2 e] at h; cases h
  have h2 : ¬ b.toList < a.toList := fun e => by rw [(lessS_lt b a).2 e] at k; cases k
  exact List.le_antisymm (List.not_lt.1 h2) (List.not_lt.1 h1)
theorem lessS_asymm {a b : ByteArray} (h : lessS a b = true) : lessS b a = false := by
  cases k : lessS b a with
  | false => rfl
  | true => have := lessS_trans h k; rw [lessS_irrefl] at this; cases this
/-- a variable -/
structure VarV where
  nm : ByteArray
  vl : ByteArray
  il : Bool
  ls : List ByteArray
  ex : Bool
  fx : Bool
/-- a state without functions and traps -/
structure ShV where
  nm : ByteArray
  ar : List ByteArray
  vs : List VarV
  op : Int
  st : Int
  msk : Int
  dr : ByteArray
/-- no byte 0 -/
def noZ (s : ByteArray) : Prop := ¬ 0 ≤ Lib.indexByte s.data.toList 0
def sumS (l : List ByteArray) : Nat := (l.map ByteArray.size).sum
def sizeV (v : VarV) : Nat := v.nm.size + v.vl.size + sumS v.ls
def sizeS (S : ShV) : Nat := sumS S.ar + (S.vs.map sizeV).sum
/-- the names rise -/
def Rises (L : List VarV) : Prop := ∀ i (h : i + 1 < L.length), lessS L[i].nm L[i + 1].nm = true
theorem Rises.pair : ∀ {L : List VarV}, Rises L → L.Pairwise fun x y => lessS x.nm y.nm = true
  | [], _ => List.Pairwise.nil
  | [x], _ => by simp
  | x :: y :: L, h => by
    have ih : (y :: L).Pairwise fun x y => lessS x.nm y.nm = true := Rises.pair (fun i hi => h (i + 1) (by simpa using hi))
    refine List.pairwise_cons.2 ⟨fun z hz => ?_, ih⟩
    have h0 : lessS x.nm y.nm = true := h 0 (by simp)
    rcases List.mem_cons.1 hz with rfl | hz
    · exact h0
    · exact lessS_trans h0 ((List.pairwise_cons.1 ih).1 z hz)
theorem Rises.of_pair {L : List VarV} (h : L.Pairwise fun x y => lessS x.nm y.nm = true) : Rises L := fun i hi => List.pairwise_iff_getElem.1 h i (i + 1) (by omega) hi (Nat.lt_succ_self i)
/-- how many names are ahead of a text -/
def cntV (L : List VarV) (t : ByteArray) : Nat := L.countP fun v => lessS v.nm t
theorem cntV_le (L : List VarV) (t : ByteArray) : cntV L t ≤ L.length := List.countP_le_length
/-- the place of a name: what is ahead of it, and what is not -/
theorem cntV_split : ∀ {L : List VarV} {t : ByteArray}, (L.Pairwise fun x y => lessS x.nm y.nm = true) → (∀ x ∈ L.take (cntV L t), lessS x.nm t = true) ∧ (∀ x ∈ L.drop (cntV L t), lessS x.nm t = false)
  | [], _, _ => ⟨fun x h => by simp at h, fun x h => by simp at h⟩
  | v :: L, t, h => by
    obtain ⟨h1, h2⟩ := List.pairwise_cons.1 h
    obtain ⟨i1, i2⟩ := cntV_split (t := t) h2
    unfold cntV at *
    by_cases hv : lessS v.nm t = true
    · have hc : (v :: L).countP (fun v => lessS v.nm t) = L.countP (fun v => lessS v.nm t) + 1 := List.countP_cons_of_pos hv
      rw [hc]
      exact ⟨fun x hx => by
        rw [List.take_succ_cons] at hx
        rcases List.mem_cons.1 hx with rfl | hx
        · exact hv
        · exact i1 x hx, fun x hx => by rw [List.drop_succ_cons] at hx; exact i2 x hx⟩
    · have hv2 : lessS v.nm t = false := by simpa using hv
      have hall : ∀ x ∈ L, lessS x.nm t = false := fun x hx => by
        cases hx2 : lessS x.nm t with
        | false => rfl
        | true => rw [lessS_trans (h1 x hx) hx2] at hv2; cases hv2
      have h0 : (v :: L).countP (fun v => lessS v.nm t) = 0 := by
        rw [List.countP_eq_zero]
        intro x hx
        rcases List.mem_cons.1 hx with rfl | hx
        · simp [hv2]
        · simp [hall x hx]
      rw [h0]
      refine ⟨fun x hx => by simp at hx, fun x hx => ?_⟩
      rcases List.mem_cons.1 hx with rfl | hx
      · exact hv2
      · exact hall x hx
/-- is there a variable of a name (at its place)? -/
def hasV (L : List VarV) (t : ByteArray) : Bool := match L[cntV L t]? with
  | some x => x.nm.toList == t.toList
  | none => false
/-- the variable of a name -/
def getC (L : List VarV) (t : ByteArray) : Option VarV := if hasV L t = true then L[cntV L t]? else none
/-- a variable is put in its place -/
def setV (L : List VarV) (v : VarV) : List VarV := L.take (cntV L v.nm) ++ v :: (if hasV L v.nm = true then L.drop (cntV L v.nm + 1) else L.drop (cntV L v.nm))
theorem hasV_split {L : List VarV} {t : ByteArray} (h : hasV L t = true) : ∃ x, L[cntV L t]? = some x ∧ x.nm = t := by
  unfold hasV at h
  cases hx : L[cntV L t]? with
  | none => rw [hx] at h; cases h
  | some x =>
    rw [hx] at h
    exact ⟨x, rfl, (Lib.bytes_beq_iff _ _).1 h⟩
theorem cntV_mem {L : List VarV} (hL : L.Pairwise fun x y => lessS x.nm y.nm = true) {x : VarV} (hx : x ∈ L) : L[cntV L x.nm]? = some x := by
  obtain ⟨s1, s2⟩ := cntV_split (t := x.nm) hL
  obtain ⟨i, hi, rfl⟩ := List.getElem_of_mem hx
  have h1 : cntV L L[i].nm ≤ i := by
    by_cases h : cntV L L[i].nm ≤ i
    · exact h
    · have hm : L[i] ∈ L.take (cntV L L[i].nm) := List.mem_take_iff_getElem.2 ⟨i, by omega, rfl⟩
      have := s1 _ hm
      rw [lessS_irrefl] at this
      cases this
  rcases Nat.lt_or_ge (cntV L L[i].nm) i with h2 | h2
  · have h3 : lessS L[cntV L L[i].nm].nm L[i].nm = true := List.pairwise_iff_getElem.1 hL _ _ (by omega) hi h2
    have hm : L[cntV L L[i].nm] ∈ L.drop (cntV L L[i].nm) := by
      rw [List.drop_eq_getElem_cons (by omega)]
      exact List.mem_cons_self
    rw [s2 _ hm] at h3
    cases h3
  · have : cntV L L[i].nm = i := by omega
    rw [this, List.getElem?_eq_getElem hi]
theorem getC_mem {L : List VarV} (hL : L.Pairwise fun x y => lessS x.nm y.nm = true) {x : VarV} (hx : x ∈ L) : hasV L x.nm = true ∧ getC L x.nm = some x := by
  have h1 := cntV_mem hL hx
  have h2 : hasV L x.nm = true := by
    unfold hasV
    rw [h1]
    exact beq_self_eq_true _
  refine ⟨h2, ?_⟩
  unfold getC
  rw [if_pos h2, h1]
theorem getC_of_has {L : List VarV} {t : ByteArray} (h : hasV L t = true) : ∃ x, getC L t = some x ∧ x ∈ L ∧ x.nm = t := by
  obtain ⟨x, hx, hn⟩ := hasV_split h
  refine ⟨x, ?_, List.mem_of_getElem? hx, hn⟩
  unfold getC
  rw [if_pos h, hx]
theorem drop_cnt {L : List VarV} {t : ByteArray} (h : hasV L t = true) : ∃ x, L.drop (cntV L t) = x :: L.drop (cntV L t + 1) ∧ x.nm = t := by
  obtain ⟨x, hx, hn⟩ := hasV_split h
  obtain ⟨hi, he⟩ := List.getElem?_eq_some_iff.1 hx
  exact ⟨x, by rw [List.drop_eq_getElem_cons hi, he], hn⟩
theorem setV_pair {L : List VarV} (hL : L.Pairwise fun x y => lessS x.nm y.nm = true) (v : VarV) : (setV L v).Pairwise fun x y => lessS x.nm y.nm = true := by
  obtain ⟨s1, s2⟩ := cntV_split (t := v.nm) hL
  have hsp : (L.take (cntV L v.nm) ++ L.drop (cntV L v.nm)).Pairwise fun x y => lessS x.nm y.nm = true := by rw [List.take_append_drop]; exact hL
  obtain ⟨p1, p2, p3⟩ := List.pairwise_append.1 hsp
  unfold setV
  by_cases h : hasV L v.nm = true
  · rw [if_pos h]
    obtain ⟨x, hd, hn⟩ := drop_cnt h
    rw [hd] at p2 p3
    obtain ⟨q1, q2⟩ := List.pairwise_cons.1 p2
    refine List.pairwise_append.2 ⟨p1, List.pairwise_cons.2 ⟨fun y hy => by rw [← hn]; exact q1 y hy, q2⟩, fun a ha b hb => ?_⟩
    rcases List.mem_cons.1 hb with rfl | hb
    · exact s1 a ha
    · exact p3 a ha b (List.mem_cons_of_mem _ hb)
  · rw [if_neg h]
    refine List.pairwise_append.2 ⟨p1, List.pairwise_cons.2 ⟨fun y hy => ?_, p2⟩, fun a ha b hb => ?_⟩
    · cases hd : L.drop (cntV L v.nm) with
      | nil => rw [hd] at hy; cases hy
      | cons z R =>
        have hz : lessS v.nm z.nm = true := by
          have h1 : lessS z.nm v.nm = false := s2 z (by rw [hd]; exact List.mem_cons_self)
          cases h2 : lessS v.nm z.nm with
          | true => rfl
          | false =>
            refine absurd ?_ h
            have hz : L[cntV L v.nm]? = some z := by
              have := congrArg (·[0]?) hd
              simpa using this
            unfold hasV
            rw [hz]
            show (z.nm.toList == v.nm.toList) = true
            rw [lessS_tri h1 h2]
            exact beq_self_eq_true _
        rw [hd] at hy p2
        rcases List.mem_cons.1 hy with rfl | hy
        · exact hz
        · exact lessS_trans hz ((List.pairwise_cons.1 p2).1 y hy)
    · rcases List.mem_cons.1 hb with rfl | hb
      · exact s1 a ha
      · exact p3 a ha b hb
theorem setV_mem (L : List VarV) (v : VarV) : v ∈ setV L v := by
  unfold setV
  simp
theorem setV_old {L : List VarV} {v x : VarV} (hx : x ∈ L) (hn : x.nm ≠ v.nm) : x ∈ setV L v := by
  rw [← List.take_append_drop (cntV L v.nm) L] at hx
  unfold setV
  rcases List.mem_append.1 hx with hx | hx
  · exact List.mem_append_left _ hx
  · refine List.mem_append_right _ (List.mem_cons_of_mem _ ?_)
    by_cases h : hasV L v.nm = true
    · rw [if_pos h]
      obtain ⟨y, hd, hy⟩ := drop_cnt h
      rw [hd] at hx
      rcases List.mem_cons.1 hx with rfl | hx
      · exact absurd hy hn
      · exact hx
    · rw [if_neg h]
      exact hx
theorem mem_setV {L : List VarV} {v x : VarV} (hx : x ∈ setV L v) : x = v ∨ x ∈ L := by
  unfold setV at hx
  rcases List.mem_append.1 hx with hx | hx
  · exact .inr (List.mem_of_mem_take hx)
  · rcases List.mem_cons.1 hx with rfl | hx
    · exact .inl rfl
    · refine .inr ?_
      split at hx
      · exact List.mem_of_mem_drop hx
      · exact List.mem_of_mem_drop hx
end Go.Proofs.YtiapondfajmkaaaGreatDoor
