/- TopMerged: slices are cut and cloned; the closure that adds a hunk. -/
import Derived.Test.YtpnnojepbmpfiaaDoorTmS
import Derived.Deep.RegionHeld3
namespace Go.Proofs.YtpnnojepbmpfiaaDoor
open Go.RowKit

/-- slices.Clone: a row of the call's own, or nil -/
def Owned (w : World) (l : List ByteArray) (e : Ending) (w' : World) : Prop :=
  ∃ v, e = .returned v ∧ w'.ownsRow w.heap.size 9 1 v l.length (l.map Value.string) ∧ Below w.heap.size w w'
theorem clone_any (l : List ByteArray) (v : Value) (w : World) (hv : SL w v l) (hn : l.length * 16 ≤ 140737488355328) :
    Calls Tryd.prog 16 #[v] w (Owned w l) := by
  obtain ⟨A, c, rfl, hc, h⟩ := hv
  by_cases h0 : 0 < l.length
  · obtain ⟨b, off, rfl, _, hcell⟩ := h h0
    exact (Tryd.slices_Clone_string b off l.length c l w (Nat.le_refl _) hn (fun j hj => by rw [hcell j hj]; simp [hj])).mono fun e w' ⟨v', he, ho, _, hb⟩ => ⟨v', he, by rwa [List.take_length] at ho, hb⟩
  · obtain rfl : l = [] := List.length_eq_zero_iff.1 (by omega)
    cases A with
    | none => exact (Tryd.slices_Clone_string_nil 0 c w).mono fun e w' ⟨he, hw⟩ => ⟨_, he, World.ownsRow_nil _ _ _ _, hw ▸ Below.refl _ _⟩
    | some a => exact (Tryd.slices_Clone_string_zero a c w).mono fun e w' ⟨v', he, ho, _, hb⟩ => ⟨v', he, ho, hb⟩
theorem Owned.gives {w w' : World} {l : List ByteArray} {e : Ending} (h : Owned w l e w') : ∃ A n c, e = .returned (.slice A n c) ∧ SL w' (.slice A n c) l ∧ Below w.heap.size w w' := by
  obtain ⟨v, rfl, ho, hb⟩ := h
  have hs := SL.of_own ho
  obtain ⟨A, c, rfl, hx⟩ := hs
  exact ⟨A, _, c, rfl, ⟨A, c, rfl, hx⟩, hb⟩
/-- a slice is cut -/
theorem SL.cut {w : World} {A : Option Addr} {n c : Nat} {l : List ByteArray} (h : SL w (.slice A n c) l) (f p : Nat) (hf : f ≤ p) (hp : p ≤ l.length) :
    SL w (.slice (if c = f then A else A.map (·.add f)) (p - f) (c - f)) ((l.drop f).take (p - f)) := by
  obtain ⟨A', c', e, hc, h⟩ := h
  injection e with e1 e2 e3
  subst e1 e2 e3
  have hlen : ((l.drop f).take (p - f)).length = p - f := by rw [List.length_take, List.length_drop]; omega
  refine ⟨(if c = f then A else A.map (·.add f)), c - f, by rw [hlen], by rw [hlen]; omega, fun h0 => ?_⟩
  rw [hlen] at h0
  obtain ⟨b, off, rfl, hb, hcell⟩ := h (by omega)
  refine ⟨b, off + f, ?_, hb, fun j hj => ?_⟩
  · rw [if_neg (by omega)]
    show some ((⟨b, off, none⟩ : Addr).add f) = _
    rw [WideShapes.add_plain]
  · rw [hlen] at hj
    rw [Nat.add_assoc, hcell (f + j) (by omega)]
    simp
theorem own_ne {w : World} {b1 b2 e1 e2 s1 s2 n1 n2 : Nat} {v1 v2 : Value} {x1 x2 : List Value} (h1 : w.ownsRow b1 e1 s1 v1 n1 x1) (h2 : w.ownsRow b2 e2 s2 v2 n2 x2) (he : e1 ≠ e2) : v1.ownBlock = none ∨ v1.ownBlock ≠ v2.ownBlock := by
  rcases h1.2 with ⟨rfl, _⟩ | ⟨g, cap, cur, rfl, _, hg, _⟩
  · exact .inl rfl
  · refine .inr fun e => ?_
    rcases h2.2 with ⟨rfl, _⟩ | ⟨g', cap', cur', rfl, _, hg', _⟩
    · cases e
    · simp only [Value.ownBlock, Option.some.injEq] at e
      subst e
      rw [hg] at hg'
      injection hg' with hg'
      injection hg' with _ hg'
      exact he hg'
/-- an element that is a hunk of rows of its own -/
structure IsHO (base : Nat) (w : World) (e : EV) (h : HK) : Prop where
  fr : e.1 = (h.fr : Int)
  tb : e.2.1 = (h.tb : Int)
  old : w.ownsRow base 9 1 (.slice e.2.2.1.1 e.2.2.1.2.1 e.2.2.1.2.2) h.old.length (h.old.map Value.string)
  new : w.ownsRow base 9 1 (.slice e.2.2.2.1 e.2.2.2.2.1 e.2.2.2.2.2) h.new.length (h.new.map Value.string)
theorem IsHO.is {base : Nat} {w : World} {e : EV} {h : HK} (k : IsHO base w e h) : IsHK w e h := ⟨k.fr, k.tb, SL.of_own k.old, SL.of_own k.new⟩
inductive AreHO (base : Nat) (w : World) : List EV → List HK → Prop
  | nil : AreHO base w [] []
  | cons {e : EV} {h : HK} {E : List EV} {H : List HK} : IsHO base w e h → AreHO base w E H → AreHO base w (e :: E) (h :: H)
theorem AreHO.are {base : Nat} {w : World} : ∀ {E : List EV} {H : List HK}, AreHO base w E H → AreHK w E H
  | _, _, .nil => .nil
  | _, _, .cons h t => .cons h.is t.are
theorem AreHO.app {base : Nat} {w : World} : ∀ {E F : List EV} {H G : List HK}, AreHO base w E H → AreHO base w F G → AreHO base w (E ++ F) (H ++ G)
  | _, _, _, _, .nil, g => g
  | _, _, _, _, .cons h t, g => .cons h (t.app g)
theorem AreHO.grown {base b n : Nat} {w w' : World} {vo : Value} {xs : List Value} (ho : w.ownsRow b 68 4 vo n xs) (hg : w.grownBy w' vo.ownBlock) : ∀ {E : List EV} {H : List HK}, AreHO base w E H → AreHO base w' E H
  | _, _, .nil => .nil
  | _, _, .cons h t => .cons ⟨h.fr, h.tb, h.old.kept hg (own_ne h.old ho (by decide)), h.new.kept hg (own_ne h.new ho (by decide))⟩ (t.grown ho hg)
theorem own_far {w w' : World} {base k n s : Nat} {e : TypeId} {v : Value} {xs : List Value} (h : w.ownsRow base e s v n xs) (hg : w.grownBy w' (some k)) (hk : k < base) : w'.ownsRow base e s v n xs := by
  refine h.kept hg ?_
  cases hv : v.ownBlock with
  | none => exact .inl rfl
  | some g => exact .inr fun e => by injection e with e; have := (h.lt g hv).1; omega
theorem AreHO.far {base k : Nat} {w w' : World} (hg : w.grownBy w' (some k)) (hk : k < base) : ∀ {E : List EV} {H : List HK}, AreHO base w E H → AreHO base w' E H
  | _, _, .nil => .nil
  | _, _, .cons h t => .cons ⟨h.fr, h.tb, own_far h.old hg hk, own_far h.new hg hk⟩ (t.far hg hk)
theorem own_keep {w w' : World} {base n s : Nat} {e : TypeId} {v : Value} {xs : List Value} (h : w.ownsRow base e s v n xs) (hb : Below w.heap.size w w') : w'.ownsRow base e s v n xs :=
  h.kept (row := none) ⟨hb.os, hb.tape, hb.output, hb.size, fun k hk _ => hb.block k hk⟩ (Classical.em _)
theorem AreHO.keep {base : Nat} {w w' : World} (hb : Below w.heap.size w w') : ∀ {E : List EV} {H : List HK}, AreHO base w E H → AreHO base w' E H
  | _, _, .nil => .nil
  | _, _, .cons h t => .cons ⟨h.fr, h.tb, own_keep h.old hb, own_keep h.new hb⟩ (t.keep hb)
theorem AreHO.len {base : Nat} {w : World} : ∀ {E : List EV} {H : List HK}, AreHO base w E H → E.length = H.length
  | _, _, .nil => rfl
  | _, _, .cons _ t => by simp [t.len]
theorem grown_set (w : World) (k i : Nat) (v : Value) : w.grownBy (w.setCell ⟨k, i, none⟩ v) (some k) :=
  ⟨rfl, rfl, rfl, by simp [World.setCell], fun j _ hne => heap_setCell_other w ⟨k, i, none⟩ j v (fun e => hne (by rw [e]))⟩
/-- what diff holds in its boxes -/
structure Df (w0 W1 wx : World) (va vb : Value) (f t : Nat) (vo : Value) (E : List EV) (H : List HK) : Prop where
  below : Below w0.heap.size w0 wx
  base : w0.heap.size + 5 ≤ W1.heap.size
  size : W1.heap.size ≤ wx.heap.size
  fr : ∀ k, w0.heap.size + 5 ≤ k → k < W1.heap.size → wx.heap[k]? = W1.heap[k]?
  ca : wx.cell? ⟨w0.heap.size, 0, none⟩ = some va
  cb : wx.cell? ⟨w0.heap.size + 1, 0, none⟩ = some vb
  co : wx.cell? ⟨w0.heap.size + 2, 0, none⟩ = some vo
  cf : wx.cell? ⟨w0.heap.size + 3, 0, none⟩ = some (.int .i64 (f : Int))
  ct : wx.cell? ⟨w0.heap.size + 4, 0, none⟩ = some (.int .i64 (t : Int))
  fo : wx.frozen? ⟨w0.heap.size + 2, 0, none⟩ = false
  ff : wx.frozen? ⟨w0.heap.size + 3, 0, none⟩ = false
  ft : wx.frozen? ⟨w0.heap.size + 4, 0, none⟩ = false
  own : wx.ownsRow W1.heap.size 68 4 vo E.length (prE E)
  hk : AreHO W1.heap.size wx E H
theorem Df.keep {w0 W1 wx w' : World} {va vb vo : Value} {f t : Nat} {E : List EV} {H : List HK} (h : Df w0 W1 wx va vb f t vo E H) (hb : Below wx.heap.size wx w') : Df w0 W1 w' va vb f t vo E H := by
  have hs := h.size
  have hB := h.base
  have hc : ∀ k, k < w0.heap.size + 5 → w'.cell? ⟨k, 0, none⟩ = wx.cell? ⟨k, 0, none⟩ := fun k hk => hb.cell (p := ⟨k, 0, none⟩) (by show k < _; omega)
  have hz : ∀ k, k < w0.heap.size + 5 → w'.frozen? ⟨k, 0, none⟩ = wx.frozen? ⟨k, 0, none⟩ := fun k hk => hb.frozen (p := ⟨k, 0, none⟩) (by show k < _; omega)
  exact ⟨h.below.trans (hb.mono h.below.size), hB, Nat.le_trans hs hb.size, fun k h1 h2 => (hb.block k (by omega)).trans (h.fr k h1 h2), (hc _ (by omega)).trans h.ca, (hc _ (by omega)).trans h.cb, (hc _ (by omega)).trans h.co, (hc _ (by omega)).trans h.cf, (hc _ (by omega)).trans h.ct, (hz _ (by omega)).trans h.fo, (hz _ (by omega)).trans h.ff, (hz _ (by omega)).trans h.ft,
    h.own.kept (row := none) ⟨hb.os, hb.tape, hb.output, hb.size, fun k hk _ => hb.block k hk⟩ (Classical.em _), h.hk.keep hb⟩
theorem cell_set_ne {wx : World} {k i j m : Nat} {v : Value} (h : k ≠ m) : (wx.setCell ⟨k, i, none⟩ v).cell? ⟨m, j, none⟩ = wx.cell? ⟨m, j, none⟩ := World.cell?_setCell_other _ _ _ _ (by intro e; injection e; omega)
theorem cell_set_is {wx : World} {k i : Nat} {u v : Value} (h : wx.cell? ⟨k, i, none⟩ = some u) : (wx.setCell ⟨k, i, none⟩ v).cell? ⟨k, i, none⟩ = some v := World.cell?_setCell_same _ _ _ h
theorem fz_set_ne {wx : World} {k i j m : Nat} {v : Value} (_h : k ≠ m) : (wx.setCell ⟨k, i, none⟩ v).frozen? ⟨m, j, none⟩ = wx.frozen? ⟨m, j, none⟩ := by
  simp
theorem fz_set_is {wx : World} {k i : Nat} {v : Value} : (wx.setCell ⟨k, i, none⟩ v).frozen? ⟨k, i, none⟩ = wx.frozen? ⟨k, i, none⟩ := by
  simp
/-- the two places are set -/
theorem Df.places {w0 W1 wx : World} {va vb vo : Value} {f t : Nat} {E : List EV} {H : List HK} (h : Df w0 W1 wx va vb f t vo E H) (f2 t2 : Nat) :
    Df w0 W1 ((wx.setCell ⟨w0.heap.size + 3, 0, none⟩ (.int .i64 (f2 : Int))).setCell ⟨w0.heap.size + 4, 0, none⟩ (.int .i64 (t2 : Int))) va vb f2 t2 vo E H := by
  have hB := h.base
  refine ⟨(h.below.setCell (p := ⟨w0.heap.size + 3, 0, none⟩) (by show w0.heap.size ≤ w0.heap.size + 3; omega) _).setCell (p := ⟨w0.heap.size + 4, 0, none⟩) (by show w0.heap.size ≤ w0.heap.size + 4; omega) _, hB, by simpa [World.setCell] using h.size, fun k h1 h2 => ((heap_setCell_other _ ⟨w0.heap.size + 4, 0, none⟩ k _ (by show k ≠ w0.heap.size + 4; omega)).trans (heap_setCell_other _ ⟨w0.heap.size + 3, 0, none⟩ k _ (by show k ≠ w0.heap.size + 3; omega))).trans (h.fr k h1 h2), ?_, ?_, ?_, ?_, ?_, ?_, ?_, ?_, ?_, ?_⟩
  · rw [cell_set_ne (by omega), cell_set_ne (by omega)]; exact h.ca
  · rw [cell_set_ne (by omega), cell_set_ne (by omega)]; exact h.cb
  · rw [cell_set_ne (by omega), cell_set_ne (by omega)]; exact h.co
  · rw [cell_set_ne (by omega)]; exact cell_set_is h.cf
  · exact cell_set_is (by rw [cell_set_ne (by omega)]; exact h.ct)
  · rw [fz_set_ne (by omega), fz_set_ne (by omega)]; exact h.fo
  · rw [fz_set_ne (by omega), fz_set_is]; exact h.ff
  · rw [fz_set_is, fz_set_ne (by omega)]; exact h.ft
  · exact own_far (own_far h.own (grown_set _ _ _ _) (by omega)) (grown_set _ _ _ _) (by omega)
  · exact (h.hk.far (grown_set _ _ _ _) (by omega)).far (grown_set _ _ _ _) (by omega)
/-- a hunk comes to the list -/
theorem Df.put {w0 W1 wx w' : World} {va vb vo v' : Value} {f t : Nat} {E : List EV} {H : List HK} {e : EV} {k : HK} (h : Df w0 W1 wx va vb f t vo E H) (hk : IsHO W1.heap.size wx e k)
    (hown : w'.ownsRow W1.heap.size 68 4 v' (E.length + 1) (prE E ++ [k0 e, k1 e, k2 e, k3 e])) (hg : wx.grownBy w' vo.ownBlock) :
    Df w0 W1 (w'.setCell ⟨w0.heap.size + 2, 0, none⟩ v') va vb f t v' (E ++ [e]) (H ++ [k]) := by
  have hs := h.size
  have hB := h.base
  have hfar : ∀ m, m < W1.heap.size → w'.heap[m]? = wx.heap[m]? := fun m hm => hg.block m (by omega) (fun e => by
    have := (h.own.lt m e.symm).1
    omega)
  have hc : ∀ m, m < w0.heap.size + 5 → w'.cell? ⟨m, 0, none⟩ = wx.cell? ⟨m, 0, none⟩ := fun m hm => World.cell?_of_block (hfar m (by omega))
  have hz : ∀ m, m < w0.heap.size + 5 → w'.frozen? ⟨m, 0, none⟩ = wx.frozen? ⟨m, 0, none⟩ := fun m hm => World.frozen?_of_block (hfar m (by omega))
  refine ⟨(h.below.grown hg (by omega) (fun g hg => by have := (h.own.lt g hg).1; omega)).setCell (p := ⟨w0.heap.size + 2, 0, none⟩) (by show w0.heap.size ≤ w0.heap.size + 2; omega) _, hB, by simpa [World.setCell] using Nat.le_trans hs hg.size, fun j h1 h2 => (heap_setCell_other _ ⟨w0.heap.size + 2, 0, none⟩ j _ (by show j ≠ w0.heap.size + 2; omega)).trans ((hfar j h2).trans (h.fr j h1 h2)), ?_, ?_, ?_, ?_, ?_, ?_, ?_, ?_, ?_, ?_⟩
  · rw [cell_set_ne (by omega), hc _ (by omega)]; exact h.ca
  · rw [cell_set_ne (by omega), hc _ (by omega)]; exact h.cb
  · exact cell_set_is (by rw [hc _ (by omega)]; exact h.co)
  · rw [cell_set_ne (by omega), hc _ (by omega)]; exact h.cf
  · rw [cell_set_ne (by omega), hc _ (by omega)]; exact h.ct
  · rw [fz_set_is, hz _ (by omega)]; exact h.fo
  · rw [fz_set_ne (by omega), hz _ (by omega)]; exact h.ff
  · rw [fz_set_ne (by omega), hz _ (by omega)]; exact h.ft
  · rw [List.length_append, prE_app]
    exact own_far hown (grown_set _ _ _ _) (by omega)
  · exact ((h.hk.app (.cons hk .nil)).grown h.own hg).far (grown_set _ _ _ _) (by omega)
end Go.Proofs.YtpnnojepbmpfiaaDoor
