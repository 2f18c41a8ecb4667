/- A slice of states of the editor in memory, nil let in: asked by a predicate, cloned, compared. -/
import Derived.Test.YtokmiommhfbkeaaGreatDoorStrs
import Derived.Test.YtokmiommhfbkeaaGreatDoorEditX
namespace Go.Proofs.YtokmiommhfbkeaaGreatDoor
open Go.RowKit

def esC (l : List (ByteArray × Int)) : List Value := l.flatMap fun b => [.string b.1, .int .i64 b.2]
theorem esC_len (l : List (ByteArray × Int)) : (esC l).length = l.length * 2 := by
  induction l with
  | nil => rfl
  | cons b r ih => simp only [esC, List.flatMap_cons, List.length_append, List.length_cons, List.length_nil] at *; omega
theorem esC_app (l m : List (ByteArray × Int)) : esC (l ++ m) = esC l ++ esC m := by simp [esC]
theorem esC_at (l : List (ByteArray × Int)) (j : Nat) (h : j < l.length) : (esC l)[j * 2]? = some (.string l[j].1) ∧ (esC l)[j * 2 + 1]? = some (.int .i64 l[j].2) := by
  induction l generalizing j with
  | nil => simp at h
  | cons b r ih =>
    cases j with
    | zero => exact ⟨rfl, rfl⟩
    | succ j =>
      have := ih j (by simpa using h)
      rw [show (j + 1) * 2 = j * 2 + 2 by omega, show j * 2 + 2 + 1 = (j * 2 + 1) + 2 by omega]
      exact this
theorem esC_drop (l : List (ByteArray × Int)) (k : Nat) : esC (l.drop k) = (esC l).drop (k * 2) := by
  induction l generalizing k with
  | nil => simp [esC]
  | cons b r ih =>
    cases k with
    | zero => simp
    | succ k =>
      rw [List.drop_succ_cons, ih k, show (k + 1) * 2 = k * 2 + 2 by omega]; rfl
theorem esC_take (l : List (ByteArray × Int)) (k : Nat) : esC (l.take k) = (esC l).take (k * 2) := by
  induction l generalizing k with
  | nil => simp [esC]
  | cons b r ih =>
    cases k with
    | zero => simp [esC]
    | succ k =>
      rw [List.take_succ_cons, show (k + 1) * 2 = k * 2 + 2 by omega]
      show [Value.string b.1, .int .i64 b.2] ++ esC (r.take k) = _
      rw [ih k]; rfl

/-- v is a slice that reads as the states l -/
def ES (w : World) (v : Value) (l : List (ByteArray × Int)) : Prop :=
  ∃ A c, v = .slice A l.length c ∧ l.length ≤ c ∧ (0 < l.length → ∃ b off, A = some ⟨b, off, none⟩ ∧ b < w.heap.size ∧ ∀ j (h : j < l.length), w.cell? ⟨b, off + j * 2, none⟩ = some (.string l[j].1) ∧ w.cell? ⟨b, off + j * 2 + 1, none⟩ = some (.int .i64 l[j].2))
theorem ES.nil (w : World) : ES w (.slice none 0 0) [] := ⟨none, 0, rfl, Nat.le_refl _, fun h => by simp at h⟩
theorem ES.keep {w w' : World} {v : Value} {l : List (ByteArray × Int)} (h : ES w v l) (hb : Below w.heap.size w w') : ES w' v l := by
  obtain ⟨A, c, rfl, hc, h⟩ := h
  refine ⟨A, c, rfl, hc, fun hn => ?_⟩
  obtain ⟨b, off, rfl, hlt, hcell⟩ := h hn
  exact ⟨b, off, rfl, Nat.lt_of_lt_of_le hlt hb.size, fun j hj => ⟨(hb.cell (p := ⟨b, off + j * 2, none⟩) hlt).trans (hcell j hj).1, (hb.cell (p := ⟨b, off + j * 2 + 1, none⟩) hlt).trans (hcell j hj).2⟩⟩
theorem ES.of_own {w : World} {base : Nat} {e : TypeId} {v : Value} {n : Nat} {l : List (ByteArray × Int)} (h : w.ownsRow base e 2 v n (esC l)) : ES w v l := by
  have hn : l.length = n := by have := h.1; rw [esC_len] at this; omega
  subst hn
  rcases h.2 with ⟨rfl, h0⟩ | ⟨g, cap, cur, rfl, _, hh, hcap, _, _, ht⟩
  · have : l = [] := by cases l with
      | nil => rfl
      | cons b r => simp at h0
    subst this
    exact ⟨none, 0, rfl, by simp, fun hp => by simp at hp⟩
  · refine ⟨_, cap, rfl, hcap, fun hp => ⟨g, 0, rfl, (h.lt g rfl).2, fun j hj => ?_⟩⟩
    have h1 := h.cells (g := g) rfl (j * 2) (.string l[j].1) (esC_at l j hj).1
    have h2 := h.cells (g := g) rfl (j * 2 + 1) (.int .i64 l[j].2) (esC_at l j hj).2
    rw [WideShapes.add_plain] at h1 h2
    exact ⟨h1, by rw [← h2, Nat.add_assoc]⟩

def idxS (p : ByteArray × Int → Bool) (l : List (ByteArray × Int)) : Int := if l.any p then (l.findIdx p : Int) else -1
theorem idxS_hit {p : ByteArray × Int → Bool} {l : List (ByteArray × Int)} {k : Nat} (hk : k < l.length) (h : ∀ j (hj : j < l.length), j < k → p l[j] = false) (hp : p l[k] = true) : idxS p l = k := by
  have ha : l.any p = true := List.any_eq_true.2 ⟨l[k], List.getElem_mem hk, hp⟩
  unfold idxS
  rw [if_pos ha, (List.findIdx_eq hk).2 ⟨hp, fun j hj => h j (by omega) hj⟩]
theorem idxS_none {p : ByteArray × Int → Bool} {l : List (ByteArray × Int)} (h : ∀ j (hj : j < l.length), j < l.length → p l[j] = false) : idxS p l = -1 := by
  have ha : l.any p = false := List.any_eq_false.2 fun x hx => by
    obtain ⟨j, hj, rfl⟩ := List.getElem_of_mem hx
    simp [h j hj hj]
  unfold idxS
  rw [ha]; rfl
theorem idxS_any (p : ByteArray × Int → Bool) (l : List (ByteArray × Int)) : decide (0 ≤ idxS p l) = l.any p := by
  unfold idxS
  cases l.any p <;> simp

set_option maxHeartbeats 800000 in
theorem indexStates_any (g : Nat) (eg : ∀ args w, (callFunc g args).run Tryz.prog w = .ok (.enter g args) w) (p : ByteArray × Int → Bool) (l : List (ByteArray × Int)) (v : Value) (w : World) (hv : ES w v l) (hn : l.length ≤ 9223372036854775807)
    (hp : ∀ s ∈ l, ∀ W, Below w.heap.size w W → Calls Tryz.prog g #[.agg #[.string s.1, .int .i64 s.2]] W fun e W' => e = .returned (.bool (p s)) ∧ Below W.heap.size W W') :
    Calls Tryz.prog 192 #[v, .func (.func g) #[] #[]] w fun e w' => e = .returned (.int .i64 (idxS p l)) ∧ Below w.heap.size w w' := by
  have HP := Lib.hid hp
  clear hp
  have HV := Lib.hid hv
  obtain ⟨A, c, rfl, hc, h⟩ := hv
  have HH := Lib.hid h
  clear h
  go_enter Tryz.func192, Tryz.ntmps192
  go_wp2_with fail
  go_loopw [8] (fun i wr => ∃ k : Nat, k ≤ l.length ∧ i = .int .i64 k ∧ Below w.heap.size w wr ∧ Hid (∀ j (hj : j < l.length), j < k → p l[j] = false)) (fun i _ => l.length - (intOf i).toNat)
  case atStart => exact ⟨0, Nat.zero_le _, rfl, Below.refl _ _, fun j _ hj => by omega⟩
  case round =>
    obtain ⟨k, hk, rfl, hbw, HN⟩ := hrel
    by_cases hlt : k < l.length
    · obtain ⟨b, off, rfl, hb, hcell⟩ := HH.out (by omega)
      have hc1 : wr.cell? ⟨b, off + k * 2, none⟩ = some (.string l[k].1) := (hbw.cell (p := ⟨b, off + k * 2, none⟩) hb).trans (hcell k hlt).1
      have hc2 : wr.cell? ⟨b, off + k * 2 + 1, none⟩ = some (.int .i64 l[k].2) := (hbw.cell (p := ⟨b, off + k * 2 + 1, none⟩) hb).trans (hcell k hlt).2
      have hcall := Lib.hid (HP.out l[k] (List.getElem_mem hlt) wr hbw)
      clear hcell
      generalize hs : l[k] = s at *
      cases hps : p s
      · have HN2 : Hid (∀ j (hj : j < l.length), j < k + 1 → p l[j] = false) := fun j hj hjk => by
          by_cases e : j = k
          · subst e; rw [hs]; exact hps
          · exact HN.out j hj (by omega)
        rw [hps] at hcall
        clear hs hps
        go_wp2_with fail
        refine hcall.out.mono ?_
        rintro e w1 ⟨rfl, hb1⟩
        clear hcall
        go_wp2
        go_roundw
        case rel => exact ⟨k + 1, by omega, by go_num, hbw.trans (hb1.mono hbw.size), HN2⟩
        case measure => simp [intOf]; omega
      · have hfin := Lib.hid (idxS_hit hlt HN.out (by rw [hs]; exact hps))
        rw [hps] at hcall
        clear hs hps
        go_wp2_with fail
        refine hcall.out.mono ?_
        rintro e w1 ⟨rfl, hb1⟩
        clear hcall
        go_wp2
        go_ret
        exact ⟨ret_int hfin.out.symm, hbw.trans (hb1.mono hbw.size)⟩
    · have hfin := Lib.hid (idxS_none (p := p) (l := l) (fun j hj _ => HN.out j hj (by omega)))
      go_wp2
      go_ret
      exact ⟨ret_int hfin.out.symm, hbw⟩

set_option maxHeartbeats 400000 in
theorem containsStates_any (g : Nat) (eg : ∀ args w, (callFunc g args).run Tryz.prog w = .ok (.enter g args) w) (p : ByteArray × Int → Bool) (l : List (ByteArray × Int)) (v : Value) (w : World) (hv : ES w v l) (hn : l.length ≤ 9223372036854775807)
    (hp : ∀ s ∈ l, ∀ W, Below w.heap.size w W → Calls Tryz.prog g #[.agg #[.string s.1, .int .i64 s.2]] W fun e W' => e = .returned (.bool (p s)) ∧ Below W.heap.size W W') :
    Calls Tryz.prog 131 #[v, .func (.func g) #[] #[]] w fun e w' => e = .returned (.bool (l.any p)) ∧ Below w.heap.size w w' := by
  have hc := Lib.hid (indexStates_any g eg p l v w hv hn hp)
  have H := Lib.hid (idxS_any p l)
  clear hp hv
  generalize idxS p l = n at *
  go_enter Tryz.func131, Tryz.ntmps131
  go_wp2_with fail
  refine hc.out.mono ?_
  rintro e w1 ⟨rfl, hb1⟩
  clear hc
  go_wp2
  go_ret
  exact ⟨ret_bool H.out, hb1⟩

end Go.Proofs.YtokmiommhfbkeaaGreatDoor
