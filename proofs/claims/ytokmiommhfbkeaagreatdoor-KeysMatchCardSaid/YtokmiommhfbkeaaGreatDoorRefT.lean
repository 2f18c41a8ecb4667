/- Going through the history: the reference's through. -/
import Derived.Test.YtokmiommhfbkeaaGreatDoorRefG
import Derived.Test.YtokmiommhfbkeaaGreatDoorPress
namespace Go.Proofs.YtokmiommhfbkeaaGreatDoor
open Go.RowKit

def ThroughPost (w : World) (l r : EL) (bv : Value) (e : Ending) (w' : World) : Prop :=
  ∃ bv', e = .returned (elV2 r bv') ∧ (bv' = bv ∧ r.before = l.before ∨ bv' = .slice none 0 0 ∧ r.before = []) ∧ Below w.heap.size w w'

theorem through_end {W : World} {g : Nat} {v0 v1 v2 v3 v4 v5 v6 : Value} {tmps : Array Value} {R : Ending → World → Prop} (hk : Blk W g 37 #[v0, v1, v2, v3, v4, v5, v6]) (h6 : tmps.getD 6 undef = .pointer (some ⟨g, 0, none⟩))
    (hR : R (.returned (.agg #[v0, v1, v2, v3, v4, v5, v6])) W) : bodyPost Tryz.prog Tryz.f40 R .ret { tmps := tmps, defers := [] } W := by
  obtain ⟨c, z⟩ := hk.cell
  rw [Array.getD_eq_getD_getElem?] at h6
  refine bodyPost_ret (v := .agg #[v0, v1, v2, v3, v4, v5, v6]) ?_ rfl hR
  simp [results, Tryz.results40, go_sem, h6, c]

theorem blk_two (w : World) (a b : Array Value) (s t : TypeId) : Blk ((w.alloc (.cells a s)).alloc (.cells b t)) (w.heap.size + 1) t b := by
  have z1 : (w.alloc (.cells a s)).heap.size = w.heap.size + 1 := by simp
  have := heap_alloc_new (w.alloc (.cells a s)) (.cells b t); rw [z1] at this; exact this
theorem below_two' (w : World) (a b : Obj) : Below w.heap.size w ((w.alloc a).alloc b) := ((Below.refl _ w).alloc (Nat.le_refl _) a).alloc (by simp) b

set_option maxRecDepth 100000 in
set_option maxHeartbeats 3200000 in
theorem through_out (l : EL) (p : Option Addr) (n q : Nat) (hv : Value) (h : List ByteArray) (kind goal : Int) (w : World) (hh : SL w hv h) (_hl : h.length ≤ 200) (hp1 : 0 ≤ l.place) (hp2 : l.place ≤ 200)
    (hk : kind = 20 ∧ goal = l.place + 1 ∨ kind = 21 ∧ goal = l.place - 1) (hw : withinB goal 0 h.length = false) :
    Calls Tryz.prog 40 #[elV2 l (.slice p n q), hv, .int .i64 kind] w (ThroughPost w l (placeL l h goal) (.slice p n q)) := by
  rw [show placeL l h goal = l by unfold placeL; rw [if_pos hw]]
  have hor : goal < 0 ∨ ¬ goal < 0 ∧ (h.length : Int) < goal := by
    have : ¬ (0 ≤ goal ∧ goal ≤ h.length) := by simpa [withinB] using hw
    omega
  obtain ⟨A, c, rfl, hc, hcells⟩ := hh
  obtain ⟨text, a, killed, killing, before, place, begun⟩ := l
  dsimp only at *
  clear hcells hw
  rcases hk with ⟨rfl, rfl⟩ | ⟨rfl, rfl⟩ <;> rcases hor with h1 | ⟨h1, h2⟩
  all_goals
    first
      | (exfalso; omega)
      | (go_enter Tryz.func40, Tryz.ntmps40
         go_wp2
         refine through_end (blk_two w _ _ _ _) rfl ?_
         exact ⟨_, rfl, .inl ⟨rfl, rfl⟩, below_two' w _ _⟩)

set_option maxRecDepth 100000 in
set_option maxHeartbeats 3200000 in
theorem through_in (l : EL) (p : Option Addr) (n q : Nat) (hv : Value) (h : List ByteArray) (kind goal : Int) (w : World) (hh : SL w hv h) (hl : h.length ≤ 200) (hp1 : 0 ≤ l.place) (hp2 : l.place ≤ 200)
    (hk : kind = 20 ∧ goal = l.place + 1 ∨ kind = 21 ∧ goal = l.place - 1) (hw : withinB goal 0 h.length = true) (ht : l.text.size ≤ maxLen) (hbg : l.begun.size ≤ maxLen) (hs : ∀ s ∈ h, s.size ≤ maxLen) :
    Calls Tryz.prog 40 #[elV2 l (.slice p n q), hv, .int .i64 kind] w (ThroughPost w l (placeL l h goal) (.slice p n q)) := by
  have hgr : 0 ≤ goal ∧ goal ≤ h.length := by simp [withinB] at hw; exact hw
  obtain ⟨hg1, hg2⟩ := hgr
  have hfin : placeL l h goal = ⟨if 0 < goal then h.getD (h.length - goal.toNat) ⟨#[]⟩ else if l.place = 0 then l.text else l.begun, (if 0 < goal then h.getD (h.length - goal.toNat) ⟨#[]⟩ else if l.place = 0 then l.text else l.begun).size, l.killed, l.killing, [], goal, if l.place = 0 then l.text else l.begun⟩ := by
    unfold placeL; rw [if_neg (by simp [hw])]
  rw [hfin]
  clear hfin hw
  obtain ⟨A, c, rfl, hc, hcells⟩ := hh
  obtain ⟨text, a, killed, killing, before, place, begun⟩ := l
  dsimp only at *
  unfold maxLen at *
  have hn1 : ¬ goal < 0 := by omega
  have hn2 : ¬ (h.length : Int) < goal := by omega
  by_cases hgo : 0 < goal
  · rw [if_pos hgo]
    obtain ⟨k, hk2⟩ : ∃ k : Nat, (h.length : Int) - goal = (k : Int) := ⟨h.length - goal.toNat, by omega⟩
    have hkl : k < h.length := by omega
    have hk0 : (0 : Int) ≤ (h.length : Int) - goal := by omega
    have hkn : ((h.length : Int) - goal).toNat = k := by omega
    have hk3 : (h.length : Int) - goal < h.length := by omega
    have hkg := Lib.hid (show h.length - goal.toNat = k by omega)
    have e2 : IntKind.i64.wrap ((h.length : Int) - goal) = (h.length : Int) - goal := IntWalk.i64_in _ (by omega)
    rw [hkg.out, show h.getD k ⟨#[]⟩ = h[k] by simp [List.getD_eq_getElem?_getD, hkl]]
    have hln := hs h[k] (List.getElem_mem hkl)
    obtain ⟨b2, off2, rfl, hlt2, hcell⟩ := hcells (by omega)
    have hck := hcell k hkl
    clear hcells hcell hk2 hs
    generalize h[k] = line at *
    by_cases hpl : place = 0
    · rw [if_pos hpl]
      subst hpl
      rcases hk with ⟨rfl, hk'⟩ | ⟨rfl, hk'⟩
      all_goals
        first
          | (exfalso; omega)
          | (obtain rfl : goal = 1 := by omega
             clear hk'
             have hk1 : 1 ≤ h.length := by omega
             go_enter Tryz.func40, Tryz.ntmps40
             go_wp2
             refine through_end (blk_two w _ _ _ _) rfl ?_
             exact ⟨_, rfl, .inr ⟨rfl, rfl⟩, below_two' w _ _⟩)
    · rw [if_neg hpl]
      have e1 : (place == 0) = false := by rw [beq_eq_false_iff_ne]; exact hpl
      clear hpl
      rcases hk with ⟨rfl, rfl⟩ | ⟨rfl, rfl⟩
      all_goals
        go_enter Tryz.func40, Tryz.ntmps40
        go_wp2
        refine through_end (blk_two w _ _ _ _) rfl ?_
        exact ⟨_, rfl, .inr ⟨rfl, rfl⟩, below_two' w _ _⟩
  · rw [if_neg hgo]
    have hd : decide ((0 : Int) < goal) = false := by rw [decide_eq_false_iff_not]; exact hgo
    clear hcells hs
    by_cases hpl : place = 0
    · rw [if_pos hpl]
      subst hpl
      rcases hk with ⟨rfl, rfl⟩ | ⟨rfl, rfl⟩ <;> (exfalso; omega)
    · rw [if_neg hpl]
      have e1 : (place == 0) = false := by rw [beq_eq_false_iff_ne]; exact hpl
      clear hpl
      rcases hk with ⟨rfl, rfl⟩ | ⟨rfl, rfl⟩
      all_goals
        first
          | (exfalso; omega)
          | (have hd2 : ¬ 1 < place := by omega
             go_enter Tryz.func40, Tryz.ntmps40
             go_wp2
             refine through_end (blk_two w _ _ _ _) rfl ?_
             exact ⟨_, rfl, .inr ⟨rfl, rfl⟩, below_two' w _ _⟩)

theorem through_any (l : EL) (p : Option Addr) (n q : Nat) (hv : Value) (h : List ByteArray) (kind goal : Int) (w : World) (hh : SL w hv h) (hl : h.length ≤ 200) (hp1 : 0 ≤ l.place) (hp2 : l.place ≤ 200)
    (hk : kind = 20 ∧ goal = l.place + 1 ∨ kind = 21 ∧ goal = l.place - 1) (ht : l.text.size ≤ maxLen) (hbg : l.begun.size ≤ maxLen) (hs : ∀ s ∈ h, s.size ≤ maxLen) :
    Calls Tryz.prog 40 #[elV2 l (.slice p n q), hv, .int .i64 kind] w (ThroughPost w l (placeL l h goal) (.slice p n q)) := by
  cases hw : withinB goal 0 h.length
  · exact through_out l p n q hv h kind goal w hh hl hp1 hp2 hk hw
  · exact through_in l p n q hv h kind goal w hh hl hp1 hp2 hk hw ht hbg hs

end Go.Proofs.YtokmiommhfbkeaaGreatDoor
