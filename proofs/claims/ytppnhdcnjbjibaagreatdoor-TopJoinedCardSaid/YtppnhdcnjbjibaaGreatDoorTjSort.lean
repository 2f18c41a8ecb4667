/- TopJoined: lines are sorted. -/
import Derived.Test.YtppnhdcnjbjibaaGreatDoorTjAlt
import Derived.Test.YtppnhdcnjbjibaaGreatDoorGsStb
namespace Go.Proofs.YtppnhdcnjbjibaaGreatDoor
open Go.RowKit Go.Sort

/-- a list whose block is new was handed back -/
def GaveN (w : World) (l : List ByteArray) (e : Ending) (w' : World) : Prop := ∃ v, e = .returned v ∧ SLs w' v l ∧ Below w.heap.size w w' ∧ (l = [] → v = .slice none 0 0) ∧ (∀ b n c, v = .slice (some ⟨b, 0, none⟩) n c → w.heap.size ≤ b)
theorem splitN_any (s : ByteArray) (w : World) (hx : MX w) (hs : s.size < 4294967281) :
    Calls Tryz.prog 18 #[.string s, .string nl] w (GaveN w (Lib.splitB nl 0 (Lib.countB s nl) s)) := by
  obtain ⟨m, hm⟩ := hx
  refine (Tryz.strings_Split s nl m w hs hm (by decide)).mono fun e w' ⟨he, hw⟩ => ⟨_, he, ?_, by rw [hw]; exact (Below.refl _ w).alloc (Nat.le_refl _) _, ?_, ?_⟩
  · have hl := Lib.splitB_all nl (by decide) 0 _ s rfl
    subst hw
    exact ⟨some ⟨w.heap.size, 0, none⟩, Lib.countB s nl + 1, by rw [hl], by rw [hl]; omega, by rw [hl]; omega, fun _ => ⟨w.heap.size, rfl, heap_alloc_new w _⟩⟩
  · intro h0
    have hl := Lib.splitB_all nl (by decide) 0 _ s rfl
    rw [h0] at hl
    simp at hl
  · intro b n c h0
    injection h0 with h1 _ _
    injection h1 with h1
    injection h1 with h1
    omega
set_option maxHeartbeats 800000 in
theorem linesN_any (s : ByteArray) (w : World) (hx : MX w) (hs : s.size < 4294967281) :
    Calls Tryz.prog 15 #[.string s] w (GaveN w (linesL s)) := by
  have hT := Lib.hid (fun W => Tryz.strings_TrimSuffix s nl W (by omega))
  have hS := Lib.hid (splitN_any (trimB s) w hx (by have := trimB_size s; omega))
  cases h0 : s.toList.isEmpty
  · have hfin := Lib.hid (show linesL s = Lib.splitB nl 0 (Lib.countB (trimB s) nl) (trimB s) by unfold linesL; rw [h0]; rfl)
    go_enter Tryz.func15, Tryz.ntmps15
    go_wp2_with fail
    refine (hT.out _).mono ?_
    rintro e w1 ⟨he, hw⟩
    subst he; subst hw
    go_wp2_with fail
    refine hS.out.mono ?_
    rintro e w1 ⟨v, rfl, hv, hb, hn⟩
    have HV := Lib.hid hv
    have HN := Lib.hid hn
    clear hv hn
    go_wp2
    go_ret
    exact ⟨v, rfl, by rw [hfin.out]; exact HV.out, hb, by rw [hfin.out]; exact HN.out⟩
  · have hfin := Lib.hid (show linesL s = [] by unfold linesL; rw [h0]; rfl)
    go_enter Tryz.func15, Tryz.ntmps15
    go_wp2
    go_ret
    exact ⟨_, rfl, by rw [hfin.out]; exact ⟨none, 0, rfl, Nat.le_refl _, Nat.le_refl _, fun h => by simp at h⟩, Below.refl _ _, fun _ => rfl, fun b n c h => by cases h⟩

/-- a list with its places -/
def tagL : Nat → List EV → List (Nat × EV)
  | _, [] => []
  | t, x :: l => (t, x) :: tagL (t + 1) l
theorem tagL_snd : ∀ (t : Nat) (l : List EV), (tagL t l).map (·.2) = l
  | _, [] => rfl
  | t, x :: l => by rw [tagL, List.map_cons, tagL_snd]
theorem tagL_ge : ∀ (t : Nat) (l : List EV), ∀ p ∈ tagL t l, t ≤ p.1 ∧ p.2 ∈ l
  | _, [], p, h => by cases h
  | t, x :: l, p, h => by
    rcases List.mem_cons.1 h with e | h
    · subst e; exact ⟨Nat.le_refl _, List.mem_cons_self⟩
    · have := tagL_ge (t + 1) l p h
      exact ⟨by omega, List.mem_cons_of_mem _ this.2⟩
theorem tagL_rise : ∀ (t : Nat) (l : List EV), Rise (tagL t l)
  | _, [] => List.Pairwise.nil
  | t, x :: l => List.pairwise_cons.2 ⟨fun p hp => by have := (tagL_ge (t + 1) l p hp).1; show t < p.1; omega, tagL_rise (t + 1) l⟩
theorem fl_snd (L : List (Nat × EV)) : flE L = (L.map (·.2)).map Value.string := by
  unfold flE
  rw [List.map_map]
  rfl
/-- rows behind a permutation of their lines -/
theorem perm_rows {α β : Type} (f : α → β) : ∀ (K : List β) (L : List α), K.Perm (L.map f) → ∃ Q : List α, Q.Perm L ∧ Q.map f = K
  | [], L, h => by
    have : L.map f = [] := h.symm.eq_nil
    have : L = [] := List.map_eq_nil_iff.1 this
    subst this
    exact ⟨[], .refl _, rfl⟩
  | y :: K, L, h => by
    obtain ⟨x, hx, rfl⟩ := List.mem_map.1 (h.subset List.mem_cons_self)
    obtain ⟨s, t, rfl⟩ := List.append_of_mem hx
    have h1 : (s ++ x :: t).Perm (x :: (s ++ t)) := List.perm_middle
    have h2 : (f x :: K).Perm (f x :: (s ++ t).map f) := h.trans (h1.map f)
    obtain ⟨Q, q1, q2⟩ := perm_rows f K (s ++ t) (List.Perm.cons_inv h2)
    exact ⟨x :: Q, (q1.cons x).trans h1.symm, by rw [List.map_cons, q2]⟩
/-- the keys of rows are in order -/
def KeysUp (Q : List R3) : Prop := (Q.map fun r => bl r.1).Pairwise fun a b => num 200 a ≤ num 200 b

set_option maxHeartbeats 1600000 in
theorem ins_nil (kb : Nat) (w : World) :
    Calls Tryz.prog 82 #[.slice none 0 0, .int .i64 0, .int .i64 0, .func (.func 25) #[specV kb] #[]] w fun e w' => e = .returned (.tuple #[]) ∧ w = w' := by
  go_enter Tryz.func82, Tryz.ntmps82
  go_wp2_with fail
  go_loopw [8] (fun s8 wr => s8 = .int .i64 1 ∧ wr = w) (fun _ _ => 0)
  case atStart => exact ⟨rfl, rfl⟩
  case round =>
    obtain ⟨rfl, rfl⟩ := hrel
    go_wp2_with fail
    go_end0
    exact ⟨rfl, rfl⟩
set_option maxHeartbeats 1600000 in
theorem stable_nil (kb : Nat) (w : World) :
    Calls Tryz.prog 52 #[.slice none 0 0, .int .i64 0, .func (.func 25) #[specV kb] #[]] w fun e w' => e = .returned (.tuple #[]) ∧ w = w' := by
  go_enter Tryz.func52, Tryz.ntmps52
  go_wp2_with fail
  go_loopw [7, 8] (fun s7 s8 wr => s7 = .int .i64 0 ∧ s8 = .int .i64 20 ∧ wr = w) (fun _ _ _ => 0)
  case atStart => exact ⟨rfl, rfl, rfl⟩
  case round =>
    obtain ⟨rfl, rfl, rfl⟩ := hrel
    go_wp2_with fail
    refine (ins_nil kb _).mono ?_
    rintro e w2 ⟨rfl, rfl⟩
    go_wp2_with fail
    go_loopw [6] (fun s6 wx => s6 = .int .i64 20 ∧ wx = wr) (fun _ _ => 0)
    case atStart => exact ⟨rfl, rfl⟩
    case round =>
      obtain ⟨rfl, rfl⟩ := hrel
      go_wp2_with fail
      go_end0
      exact ⟨rfl, rfl⟩
set_option maxHeartbeats 1600000 in
theorem sort_nil (kb : Nat) (w : World) :
    Calls Tryz.prog 24 #[.slice none 0 0, .func (.func 25) #[specV kb] #[]] w fun e w' => e = .returned (.tuple #[]) ∧ w = w' := by
  go_enter Tryz.func24, Tryz.ntmps24
  go_wp2_with fail
  refine (stable_nil kb _).mono ?_
  rintro e w2 ⟨rfl, rfl⟩
  go_wp2_with fail
  go_end0
  exact ⟨rfl, rfl⟩

/-- lines are sorted in place -/
theorem sort_lines (kb B : Nat) (R : List R3) (hR : ∀ r ∈ R, okR r) (hn : R.length ≤ 100) (v : Value) (w : World) (hk : KeyAt w kb) (hv : SLs w v (R.map ln)) (hB : B ≤ w.heap.size) (h0 : R.map ln = [] → v = .slice none 0 0) (hnew : ∀ b n c, v = .slice (some ⟨b, 0, none⟩) n c → B ≤ b) :
    Calls Tryz.prog 24 #[v, .func (.func 25) #[specV kb] #[]] w fun e w' => e = .returned (.tuple #[]) ∧ ∃ Q : List R3, Q.Perm R ∧ KeysUp Q ∧ SL w' v (Q.map ln) ∧ Below B w w' := by
  by_cases hne : R = []
  · subst hne
    rw [h0 rfl]
    refine (sort_nil kb w).mono ?_
    rintro e w' ⟨rfl, rfl⟩
    exact ⟨rfl, [], .refl _, .nil, ⟨none, 0, rfl, Nat.le_refl _, fun h => by simp at h⟩, Below.refl _ _⟩
  · have hpos : 0 < (R.map ln).length := by rw [List.length_map]; exact List.length_pos_iff.2 hne
    obtain ⟨A, c, rfl, hc, hc2, h⟩ := hv
    obtain ⟨b, rfl, hb⟩ := h hpos
    obtain rfl : c = (R.map ln).length := by omega
    have hBb := hnew b _ _ rfl
    have hlen : (R.map ln).length = R.length := List.length_map _
    have hD : Dat 9 w b (R.map ln).length (R.map ln).length kb (tagL 0 (R.map ln)) := by
      have hfl : flE (tagL 0 (R.map ln)) = (R.map ln).map Value.string := by rw [fl_snd, tagL_snd]
      have htl : (tagL 0 (R.map ln)).length = (R.map ln).length := by
        have := congrArg List.length (tagL_snd 0 (R.map ln))
        rwa [List.length_map] at this
      refine ⟨⟨by rw [hfl, List.length_map, Nat.mul_one], .inr ⟨b, (R.map ln).length, ((R.map ln).map Value.string).toArray, rfl, Nat.le_refl _, hb, Nat.le_refl _, by unfold maxLen; omega, by simp, ?_⟩⟩, htl, hk, ?_⟩
      · rw [hfl, Nat.mul_one]
        show ((R.map ln).map Value.string).take _ = _
        rw [List.take_of_length_le (by rw [List.length_map]; exact Nat.le_refl _)]
      · intro e
        unfold KeyAt at hk
        rw [e, hb] at hk
        injection hk with hk
        injection hk with _ hk _
        exact absurd hk (by decide)
    have hgood : ∀ p ∈ tagL 0 (R.map ln), goodE p.2 := fun p hp => by
      obtain ⟨r, hr, e⟩ := List.mem_map.1 (tagL_ge 0 _ p hp).2
      unfold goodE
      rw [← e]
      have := ln_size (hR r hr)
      omega
    refine (sort_any b _ _ kb _ w hD (tagL_rise 0 _) hgood (by omega)).mono ?_
    rintro e w' ⟨rfl, ⟨Z, hz1, hz2, hz3⟩, ho⟩
    refine ⟨rfl, ?_⟩
    have hzp : (Z.map (·.2)).Perm (R.map ln) := by
      have := hz1.map (·.2)
      rwa [tagL_snd] at this
    obtain ⟨Q, q1, q2⟩ := perm_rows ln _ R hzp
    have hzl : Z.length = (R.map ln).length := hz3.len
    have hql : (Q.map ln).length = (R.map ln).length := by rw [q2, List.length_map]; exact hzl
    refine ⟨Q, q1, ?_, ?_, ⟨ho.os, ho.tape, ho.output, ho.size, fun k hk => ho.block k (by omega) (by omega)⟩⟩
    · have hs : (Z.map (·.2)).Pairwise fun a b => keyN a ≤ keyN b := by
        rw [List.pairwise_map]
        refine hz2.imp fun h => ?_
        rcases h with h | h
        · exact Int.le_of_lt h
        · exact Int.le_of_eq h.1
      rw [← q2, List.pairwise_map] at hs
      unfold KeysUp
      rw [List.pairwise_map]
      refine List.Pairwise.imp_of_mem (fun {a b} ha hb h => ?_) hs
      have h1 := num2_le 200 _ _ _ _ h
      unfold ln at h1
      rw [bl_toB, bl_toB, fld_line (hR a (q1.subset ha)), fld_line (hR b (q1.subset hb))] at h1
      exact h1
    · refine ⟨some ⟨b, 0, none⟩, (R.map ln).length, by rw [hql], by omega, fun _ => ⟨b, 0, rfl, ?_, fun j hj => ?_⟩⟩
      · exact Nat.lt_of_lt_of_le (Array.getElem?_eq_some_iff.1 hb).1 ho.size
      · rw [Nat.zero_add]
        have hjz : j < Z.length := by omega
        rw [hz3.cells j hjz]
        have hz4 : (Q.map ln)[j] = Z[j].2 := by
          have : (Q.map ln)[j]? = (Z.map (·.2))[j]? := by rw [q2]
          rw [List.getElem?_eq_getElem hj, List.getElem?_map, List.getElem?_eq_getElem hjz] at this
          exact Option.some.inj this
        rw [hz4]
end Go.Proofs.YtppnhdcnjbjibaaGreatDoor
