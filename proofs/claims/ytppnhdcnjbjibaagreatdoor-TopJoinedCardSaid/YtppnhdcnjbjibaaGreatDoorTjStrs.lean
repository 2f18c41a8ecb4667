/- A slice of texts in memory, nil let in, and what ContainsFunc and Clone make of it. The predicate may make memory, and changes none. -/
import Derived.Test.YtppnhdcnjbjibaaGreatDoorBase
import Derived.Test.YtppnhdcnjbjibaaGreatDoorShelf
namespace Go.Proofs.YtppnhdcnjbjibaaGreatDoor
open Go.RowKit

/-- v is a slice that reads as the texts l -/
def SL (w : World) (v : Value) (l : List ByteArray) : Prop :=
  ∃ A c, v = .slice A l.length c ∧ l.length ≤ c ∧ (0 < l.length → ∃ b off, A = some ⟨b, off, none⟩ ∧ b < w.heap.size ∧ ∀ j (h : j < l.length), w.cell? ⟨b, off + j, none⟩ = some (.string l[j]))
theorem SL.keep {w w' : World} {v : Value} {l : List ByteArray} (h : SL w v l) (hb : Below w.heap.size w w') : SL w' v l := by
  obtain ⟨A, c, rfl, hc, h⟩ := h
  refine ⟨A, c, rfl, hc, fun hn => ?_⟩
  obtain ⟨b, off, rfl, hlt, hcell⟩ := h hn
  exact ⟨b, off, rfl, Nat.lt_of_lt_of_le hlt hb.size, fun j hj => (hb.cell (p := ⟨b, off + j, none⟩) hlt).trans (hcell j hj)⟩
theorem SL.of_own {w : World} {base : Nat} {e : TypeId} {v : Value} {n : Nat} {l : List ByteArray} (h : w.ownsRow base e 1 v n (l.map Value.string)) : SL w v l := by
  have hn : l.length = n := by have := h.1; simpa using this
  subst hn
  rcases h.2 with ⟨rfl, h0⟩ | ⟨g, cap, cur, rfl, _, hh, hcap, _, _, ht⟩
  · exact ⟨none, 0, by rw [h0], by omega, fun hp => by omega⟩
  · refine ⟨_, cap, rfl, hcap, fun hp => ⟨g, 0, rfl, (h.lt g rfl).2, fun j hj => ?_⟩⟩
    have := h.cells (g := g) rfl j (.string l[j]) (by simp [hj])
    rwa [WideShapes.add_plain] at this

theorem SL.len {w : World} {A : Option Addr} {n c : Nat} {l : List ByteArray} (h : SL w (.slice A n c) l) : n = l.length := by
  obtain ⟨_, _, e, _⟩ := h; injection e
theorem SL.cut {w : World} {A : Option Addr} {n c k : Nat} {l : List ByteArray} (h : SL w (.slice A n c) l) (hk : k ≤ n) (_hc : ¬ c = k) : SL w (.slice (Option.map (fun x => x.add k) A) (n - k) (c - k)) (l.drop k) := by
  have hn := h.len
  subst hn
  obtain ⟨A', c', e, hcap, h⟩ := h
  injection e with e1 e2 e3
  subst e1; subst e3
  refine ⟨_, c - k, by rw [List.length_drop], by rw [List.length_drop]; omega, fun hn => ?_⟩
  rw [List.length_drop] at hn
  obtain ⟨b, off, rfl, hlt, hcell⟩ := h (by omega)
  refine ⟨b, off + k, by rw [Option.map_some, WideShapes.add_plain], hlt, fun j hj => ?_⟩
  rw [List.length_drop] at hj
  have := hcell (k + j) (by omega)
  rw [List.getElem_drop, ← this, Nat.add_assoc]
theorem SL.cut0 {w : World} {A : Option Addr} {n c k : Nat} {l : List ByteArray} (h : SL w (.slice A n c) l) (hc : c = k) : SL w (.slice A (n - k) 0) (l.drop k) := by
  have hn := h.len
  subst hn
  obtain ⟨A', c', e, hcap, h⟩ := h
  injection e with e1 e2 e3
  exact ⟨A, 0, by rw [List.length_drop], by rw [List.length_drop]; omega, fun hn => by rw [List.length_drop] at hn; omega⟩

def idxP (p : ByteArray → Bool) (l : List ByteArray) : Int := if l.any p then (l.findIdx p : Int) else -1
theorem idxP_hit {p : ByteArray → Bool} {l : List ByteArray} {k : Nat} (hk : k < l.length) (h : ∀ j (hj : j < l.length), j < k → p l[j] = false) (hp : p l[k] = true) : idxP p l = k := by
  have ha : l.any p = true := List.any_eq_true.2 ⟨l[k], List.getElem_mem hk, hp⟩
  unfold idxP
  rw [if_pos ha, (List.findIdx_eq hk).2 ⟨hp, fun j hj => h j (by omega) hj⟩]
theorem idxP_none {p : ByteArray → Bool} {l : List ByteArray} (h : ∀ j (hj : j < l.length), j < l.length → p l[j] = false) : idxP p l = -1 := by
  have ha : l.any p = false := List.any_eq_false.2 fun x hx => by
    obtain ⟨j, hj, rfl⟩ := List.getElem_of_mem hx
    simp [h j hj hj]
  unfold idxP
  rw [ha]; rfl
theorem idxP_any (p : ByteArray → Bool) (l : List ByteArray) : decide (0 ≤ idxP p l) = l.any p := by
  unfold idxP
  cases l.any p <;> simp

set_option maxHeartbeats 800000 in
theorem indexFunc_any (g : Nat) (eg : ∀ args w, (callFunc g args).run Tryz.prog w = .ok (.enter g args) w) (p : ByteArray → Bool) (l : List ByteArray) (v : Value) (w : World) (hv : SL w v l) (hn : l.length ≤ 9223372036854775807)
    (hp : ∀ s ∈ l, ∀ W, Below w.heap.size w W → Calls Tryz.prog g #[.string s] W fun e W' => e = .returned (.bool (p s)) ∧ Below W.heap.size W W') :
    Calls Tryz.prog 76 #[v, .func (.func g) #[] #[]] w fun e w' => e = .returned (.int .i64 (idxP p l)) ∧ Below w.heap.size w w' := by
  have HP := Lib.hid hp
  clear hp
  have HV := Lib.hid hv
  obtain ⟨A, c, rfl, hc, h⟩ := hv
  have HH := Lib.hid h
  clear h
  go_enter Tryz.func76, Tryz.ntmps76
  go_wp2_with fail
  go_loopw [8] (fun i wr => ∃ k : Nat, k ≤ l.length ∧ i = .int .i64 k ∧ Below w.heap.size w wr ∧ Hid (∀ j (hj : j < l.length), j < k → p l[j] = false)) (fun i _ => l.length - (intOf i).toNat)
  case atStart => exact ⟨0, Nat.zero_le _, rfl, Below.refl _ _, fun j _ hj => by omega⟩
  case round =>
    obtain ⟨k, hk, rfl, hbw, HN⟩ := hrel
    by_cases hlt : k < l.length
    · obtain ⟨b, off, rfl, hb, hcell⟩ := HH.out (by omega)
      have hc1 : wr.cell? ⟨b, off + k, none⟩ = some (.string l[k]) := (hbw.cell (p := ⟨b, off + k, none⟩) hb).trans (hcell k hlt)
      have hcall := Lib.hid (HP.out l[k] (List.getElem_mem hlt) wr hbw)
      clear hcell
      generalize hs : l[k] = s at *
      cases hps : p s
      · have HN2 : Hid (∀ j (hj : j < l.length), j < k + 1 → p l[j] = false) := fun j hj hjk => by
          by_cases e : j = k
          · subst e; rw [hs]; exact hps
          · exact HN.out j hj (by omega)
        rw [hps] at hcall
        clear hs hps
        go_wp2_with fail
        refine hcall.out.mono ?_
        rintro e w1 ⟨rfl, hb1⟩
        clear hcall
        go_wp2
        go_roundw
        case rel => exact ⟨k + 1, by omega, by go_num, hbw.trans (hb1.mono hbw.size), HN2⟩
        case measure => simp [intOf]; omega
      · have hfin := Lib.hid (idxP_hit hlt HN.out (by rw [hs]; exact hps))
        rw [hps] at hcall
        clear hs hps
        go_wp2_with fail
        refine hcall.out.mono ?_
        rintro e w1 ⟨rfl, hb1⟩
        clear hcall
        go_wp2
        go_ret
        exact ⟨ret_int hfin.out.symm, hbw.trans (hb1.mono hbw.size)⟩
    · have hfin := Lib.hid (idxP_none (p := p) (l := l) (fun j hj _ => HN.out j hj (by omega)))
      go_wp2
      go_ret
      exact ⟨ret_int hfin.out.symm, hbw⟩

set_option maxHeartbeats 400000 in
theorem containsFunc_any (g : Nat) (eg : ∀ args w, (callFunc g args).run Tryz.prog w = .ok (.enter g args) w) (p : ByteArray → Bool) (l : List ByteArray) (v : Value) (w : World) (hv : SL w v l) (hn : l.length ≤ 9223372036854775807)
    (hp : ∀ s ∈ l, ∀ W, Below w.heap.size w W → Calls Tryz.prog g #[.string s] W fun e W' => e = .returned (.bool (p s)) ∧ Below W.heap.size W W') :
    Calls Tryz.prog 42 #[v, .func (.func g) #[] #[]] w fun e w' => e = .returned (.bool (l.any p)) ∧ Below w.heap.size w w' := by
  have hc := Lib.hid (indexFunc_any g eg p l v w hv hn hp)
  have H := Lib.hid (idxP_any p l)
  clear hp hv
  generalize idxP p l = n at *
  go_enter Tryz.func42, Tryz.ntmps42
  go_wp2_with fail
  refine hc.out.mono ?_
  rintro e w1 ⟨rfl, hb1⟩
  clear hc
  go_wp2
  go_ret
  exact ⟨ret_bool H.out, hb1⟩

end Go.Proofs.YtppnhdcnjbjibaaGreatDoor
