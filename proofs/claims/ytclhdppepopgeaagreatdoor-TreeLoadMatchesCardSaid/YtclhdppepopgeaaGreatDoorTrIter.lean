/- Ranging over a map whose entries lie in the order in which they came: each comes once, in whatever order the tape says. No program in sight. -/
import Derived.Test.YtclhdppepopgeaaGreatDoorTrMap
import Derived.Maps.RangeRun
namespace Go.Proofs.YtclhdppepopgeaaGreatDoor
open Go.RowKit Go.MapKept

theorem nodup_le : ∀ (n : Nat) (S : List Nat), S.Nodup → (∀ i ∈ S, i < n) → S.length ≤ n
  | 0, [], _, _ => Nat.le_refl _
  | 0, i :: S, _, h => absurd (h i List.mem_cons_self) (by omega)
  | n + 1, S, hn, h => by
    by_cases hm : n ∈ S
    · obtain ⟨a, b, rfl⟩ := List.append_of_mem hm
      have hp : (a ++ n :: b).Perm (n :: (a ++ b)) := List.perm_middle
      obtain ⟨h1, h2⟩ := List.nodup_cons.1 (hp.nodup_iff.1 hn)
      have := nodup_le n (a ++ b) h2 (fun i hi => by
        have h3 := h i (hp.symm.subset (List.mem_cons_of_mem _ hi))
        have h4 : i ≠ n := fun e => h1 (e ▸ hi)
        omega)
      rw [hp.length_eq, List.length_cons]
      omega
    · have := nodup_le n S hn (fun i hi => by
        have h3 := h i hi
        have h4 : i ≠ n := fun e => hm (e ▸ hi)
        omega)
      omega
theorem nodup_perm : ∀ (n : Nat) (S : List Nat), S.Nodup → (∀ i ∈ S, i < n) → S.length = n → S.Perm (List.range n)
  | 0, S, _, _, hl => by
    have : S = [] := List.length_eq_zero_iff.1 hl
    subst this
    exact .refl _
  | n + 1, S, hn, h, hl => by
    have hm : n ∈ S := Classical.byContradiction fun hm => by
      have := nodup_le n S hn (fun i hi => by
        have h3 := h i hi
        have h4 : i ≠ n := fun e => hm (e ▸ hi)
        omega)
      omega
    obtain ⟨a, b, rfl⟩ := List.append_of_mem hm
    have hp : (a ++ n :: b).Perm (n :: (a ++ b)) := List.perm_middle
    obtain ⟨h1, h2⟩ := List.nodup_cons.1 (hp.nodup_iff.1 hn)
    have hr := nodup_perm n (a ++ b) h2 (fun i hi => by
      have h3 := h i (hp.symm.subset (List.mem_cons_of_mem _ hi))
      have h4 : i ≠ n := fun e => h1 (e ▸ hi)
      omega) (by rw [hp.length_eq, List.length_cons] at hl; omega)
    rw [List.range_succ]
    exact hp.trans ((hr.cons n).trans (List.perm_append_comm (l₁ := [n]) (l₂ := List.range n)))

section
variable {P : Program}

theorem mEs_get : ∀ (i : Nat) (L : List (Value × Value)) (j : Nat) (h : j < L.length), (mEs i L)[j]? = some ⟨L[j].1, L[j].2, i + j⟩
  | _, [], _, h => by simp at h
  | i, p :: L, 0, _ => by simp [mEs]
  | i, p :: L, j + 1, h => by
    rw [mEs, List.getElem?_cons_succ, mEs_get (i + 1) L j (by simpa using h), show i + 1 + j = i + (j + 1) by omega]
    rfl
theorem mEs_mem {i : Nat} {L : List (Value × Value)} {e : MapEntry} (h : e ∈ mEs i L) : ∃ j, ∃ hj : j < L.length, e = ⟨L[j].1, L[j].2, i + j⟩ := by
  obtain ⟨j, hj, rfl⟩ := List.mem_iff_getElem.1 h
  have hl : j < L.length := by rw [mEs_len] at hj; exact hj
  refine ⟨j, hl, ?_⟩
  have := mEs_get i L j hl
  rw [List.getElem?_eq_getElem hj] at this
  exact Option.some.inj this
theorem mEs_born : ∀ (i : Nat) (L : List (Value × Value)), (mEs i L).map (·.born) = (List.range L.length).map (i + ·)
  | _, [] => rfl
  | i, p :: L => by
    rw [mEs, List.map_cons, mEs_born (i + 1) L, List.length_cons, List.range_succ_eq_map, List.map_cons, List.map_map, Nat.add_zero]
    congr 1
    exact List.map_congr_left fun j _ => by show i + 1 + j = i + (j + 1); omega
theorem mEs_nodup (L : List (Value × Value)) : ((mEs 0 L).map (·.born)).Nodup := by
  rw [mEs_born]
  have : (fun x => 0 + x) = (id : Nat → Nat) := by funext x; simp
  rw [this, List.map_id]
  exact List.nodup_range

/-- an iterator over a map; the places of the entries that have come -/
structure It (w : World) (b r : Nat) (L : List (Value × Value)) (S : List Nat) : Prop where
  map : MapAt w b L
  it : ∃ c0, w.heap[r]? = some (.mapIter (some b) L.length S.toArray c0) ∧ L.length ≤ c0
  ne : r ≠ b
  nd : S.Nodup
  lt : ∀ i ∈ S, i < L.length
theorem It.keep {w w' : World} {b r : Nat} {L : List (Value × Value)} {S : List Nat} (h : It w b r L S) (hb : Below w.heap.size w w') : It w' b r L S := by
  obtain ⟨c0, h1, h2⟩ := h.it
  exact ⟨h.map.keep hb, ⟨c0, (hb.block r (Array.getElem?_eq_some_iff.1 h1).1).trans h1, h2⟩, h.ne, h.nd, h.lt⟩
/-- ranging begins -/
theorem range_m {T K E : TypeId} (hT : P.underlying T = some (.map K E)) {w : World} {b : Nat} {L : List (Value × Value)} (h : MapAt w b L) :
    (Instr.range T (.map (some b))).run P w = .ok (.pointer (some ⟨w.heap.size, 0, none⟩)) (w.alloc (.mapIter (some b) L.length #[] L.length)) ∧ It (w.alloc (.mapIter (some b) L.length #[] L.length)) b w.heap.size L [] :=
  ⟨Go.run_range_map w T K E b (mEs 0 L).toArray L.length hT h, ⟨h.keep ((Below.refl _ w).alloc (Nat.le_refl _) _), ⟨_, (heap_alloc w _).1, Nat.le_refl _⟩, fun e => by have := h.lt; omega, List.nodup_nil, fun i hi => by cases hi⟩⟩
/-- a step -/
theorem next_m {w : World} {b r : Nat} {L : List (Value × Value)} {S : List Nat} (h : It w b r L S) (ty : TypeId) :
    (S.Perm (List.range L.length) ∧ (Instr.next (.pointer (some ⟨r, 0, none⟩)) false ty).run P w = .ok (.tuple #[.bool false]) w) ∨
    ∃ i, ∃ hi : i < L.length, i ∉ S ∧ ∃ w', (Instr.next (.pointer (some ⟨r, 0, none⟩)) false ty).run P w = .ok (.tuple #[.bool true, L[i].1, L[i].2]) w' ∧ It w' b r L (S ++ [i]) ∧ Below r w w' ∧ w'.heap.size = w.heap.size ∧ (∀ k, k ≠ r → w'.heap[k]? = w.heap[k]?) ∧
      (Instr.entry (.pointer (some ⟨r, 0, none⟩))).run P w' = .ok (.tuple #[L[i].1, L[i].2]) w' := by
  obtain ⟨c0, hr, hc⟩ := h.it
  have hb := h.map
  unfold MapAt at hb
  have hold : ∀ x ∈ ((mEs 0 L).toArray).toList, x.born < L.length := fun x hx => by
    obtain ⟨j, hj, rfl⟩ := mEs_mem hx
    show 0 + j < _
    omega
  rcases Go.run_next_at (P := P) w ty r b L.length c0 S.toArray (mEs 0 L).toArray L.length hr hb hold hc with ⟨h0, hrun⟩ | ⟨e, he, w1, hal, hrun⟩
  · refine .inl ⟨nodup_perm _ _ h.nd h.lt ?_, hrun⟩
    have hall : ∀ j, j < L.length → j ∈ S := fun j hj => by
      have hm : (⟨L[j].1, L[j].2, 0 + j⟩ : MapEntry) ∈ (mEs 0 L).toArray.toList := List.mem_of_getElem? (mEs_get 0 L j hj)
      have h1 := Go.all_seen (mEs 0 L).toArray S.toArray h0 _ hm
      simpa using h1
    have h1 := nodup_le _ _ h.nd h.lt
    have h2 : (List.range L.length).length ≤ S.length := by
      have hp : ∀ (n : Nat) (S : List Nat), (∀ j, j < n → j ∈ S) → n ≤ S.length := fun n => by
        induction n with
        | zero => intro S _; exact Nat.zero_le _
        | succ n ih =>
          intro S hS
          obtain ⟨x, y, rfl⟩ := List.append_of_mem (hS n (by omega))
          have := ih (x ++ y) (fun j hj => by
            have := hS j (by omega)
            simp only [List.mem_append, List.mem_cons] at this ⊢
            rcases this with h | h | h
            · exact .inl h
            · omega
            · exact .inr h)
          simp only [List.length_append, List.length_cons] at this ⊢
          omega
      rw [List.length_range]
      exact hp _ _ hall
    rw [List.length_range] at h2
    omega
  · obtain ⟨hem, hes⟩ := Go.mem_left he
    obtain ⟨i, hi, rfl⟩ := mEs_mem hem
    have hnS : i ∉ S := fun hm => by
      have : S.toArray.contains (0 + i) = true := by simpa using hm
      rw [hes] at this
      cases this
    have hr1 : w1.heap[r]? = some (.mapIter (some b) L.length S.toArray c0) := by rcases hal with rfl | rfl <;> exact hr
    have hb1 : w1.heap[b]? = some (.map (mEs 0 L).toArray L.length) := by rcases hal with rfl | rfl <;> exact hb
    have hset := heap_set (o' := .mapIter (some b) L.length (S.toArray.push (0 + i)) L.length) hr1
    have hb' := (hset.2 b (fun e1 => h.ne e1.symm)).trans hb1
    have epush : S.toArray.push (0 + i) = (S ++ [i]).toArray := by simp
    refine .inr ⟨i, hi, hnS, _, hrun, ⟨hb', ⟨L.length, by rw [← epush]; exact hset.1, Nat.le_refl _⟩, h.ne, ?_, fun j hj => ?_⟩, ?_, ?_, fun k hk => ?_, Go.run_entry_at _ r b L.length S.toArray (mEs 0 L).toArray L.length _ hset.1 hb' hem (mEs_nodup L)⟩
    · exact List.nodup_append.2 ⟨h.nd, by simp, fun x hx y hy => by simp at hy; subst hy; exact fun e => hnS (e ▸ hx)⟩
    · rcases List.mem_append.1 hj with hj | hj
      · exact h.lt j hj
      · simp at hj; subst hj; exact hi
    · rcases hal with rfl | rfl <;> exact ⟨rfl, rfl, rfl, by simp [ChangeMaps.setBlock], fun k hk => hset.2 k (by omega)⟩
    · rcases hal with rfl | rfl <;> simp [ChangeMaps.setBlock]
    · have := hset.2 k hk
      rcases hal with rfl | rfl <;> exact this
end
end Go.Proofs.YtclhdppepopgeaaGreatDoor
