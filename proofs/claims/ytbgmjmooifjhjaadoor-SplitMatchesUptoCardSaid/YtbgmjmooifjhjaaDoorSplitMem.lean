/- A text in memory, each byte with its mark: a slice of pairs. -/
import Derived.Test.YtbgmjmooifjhjaaDoorSplitStrs
import Derived.Laws.OwnMore
namespace Go.Proofs.YtbgmjmooifjhjaaDoor
open Go.RowKit

def mkC (m : Value) (l : List UInt8) : List Value := l.flatMap fun c => [.int .u8 (c.toNat : Int), m]
theorem mkC_len (m : Value) (l : List UInt8) : (mkC m l).length = l.length * 2 := by
  induction l with
  | nil => rfl
  | cons b r ih => simp only [mkC, List.flatMap_cons, List.length_append, List.length_cons, List.length_nil] at *; omega
theorem mkC_app (m : Value) (l k : List UInt8) : mkC m (l ++ k) = mkC m l ++ mkC m k := by simp [mkC]
theorem mkC_at (m : Value) (l : List UInt8) (j : Nat) (h : j < l.length) : (mkC m l)[j * 2]? = some (.int .u8 (l[j].toNat : Int)) ∧ (mkC m l)[j * 2 + 1]? = some m := by
  induction l generalizing j with
  | nil => simp at h
  | cons b r ih =>
    cases j with
    | zero => exact ⟨rfl, rfl⟩
    | succ j =>
      have := ih j (by simpa using h)
      rw [show (j + 1) * 2 = j * 2 + 2 by omega, show j * 2 + 2 + 1 = (j * 2 + 1) + 2 by omega]
      exact this
/-- v is a slice that reads as the bytes l, each with the mark m -/
def ML (m : Value) (w : World) (v : Value) (l : List UInt8) : Prop :=
  ∃ A c, v = .slice A l.length c ∧ l.length ≤ c ∧ (0 < l.length → ∃ b off, A = some ⟨b, off, none⟩ ∧ b < w.heap.size ∧ ∀ j (h : j < l.length), w.cell? ⟨b, off + j * 2, none⟩ = some (.int .u8 (l[j].toNat : Int)) ∧ w.cell? ⟨b, off + j * 2 + 1, none⟩ = some m)
theorem ML.nil (m : Value) (w : World) : ML m w (.slice none 0 0) [] := ⟨none, 0, rfl, Nat.le_refl _, fun h => by simp at h⟩
theorem ML.keep {m : Value} {w w' : World} {v : Value} {l : List UInt8} (h : ML m w v l) (hb : Below w.heap.size w w') : ML m w' v l := by
  obtain ⟨A, c, rfl, hc, h⟩ := h
  refine ⟨A, c, rfl, hc, fun hn => ?_⟩
  obtain ⟨b, off, rfl, hlt, hcell⟩ := h hn
  exact ⟨b, off, rfl, Nat.lt_of_lt_of_le hlt hb.size, fun j hj => ⟨(hb.cell (p := ⟨b, off + j * 2, none⟩) hlt).trans (hcell j hj).1, (hb.cell (p := ⟨b, off + j * 2 + 1, none⟩) hlt).trans (hcell j hj).2⟩⟩
theorem ML.of_own {m : Value} {w : World} {base : Nat} {e : TypeId} {v : Value} {n : Nat} {l : List UInt8} (h : w.ownsRow base e 2 v n (mkC m l)) : ML m w v l := by
  have hn : l.length = n := by have := h.1; rw [mkC_len] at this; omega
  subst hn
  rcases h.2 with ⟨rfl, h0⟩ | ⟨g, cap, cur, rfl, _, hh, hcap, _, _, ht⟩
  · have : l = [] := List.length_eq_zero_iff.1 h0
    subst this
    exact ML.nil m w
  · refine ⟨_, cap, rfl, hcap, fun hp => ⟨g, 0, rfl, (h.lt g rfl).2, fun j hj => ?_⟩⟩
    have h1 := h.cells (g := g) rfl (j * 2) _ (mkC_at m l j hj).1
    have h2 := h.cells (g := g) rfl (j * 2 + 1) _ (mkC_at m l j hj).2
    rw [WideShapes.add_plain] at h1 h2
    exact ⟨h1, by rw [← h2, Nat.add_assoc]⟩
/-- a part of it -/
theorem ML.part {m : Value} {w : World} {A : Option Addr} {n c : Nat} {l : List UInt8} (h : ML m w (.slice A n c) l) {s e : Nat} (hse : s ≤ e) (he : e ≤ n) (_hc : ¬ c = s) : ML m w (.slice (Option.map (fun x => x.add (s * 2)) A) (e - s) (c - s)) ((l.drop s).take (e - s)) := by
  obtain ⟨A', c', e1, hc1, h⟩ := h
  injection e1 with e1 e2 e3
  subst e1 e2 e3
  have hl : ((l.drop s).take (e - s)).length = e - s := by rw [List.length_take, List.length_drop]; omega
  refine ⟨_, _, by rw [hl], by rw [hl]; omega, fun hp => ?_⟩
  rw [hl] at hp
  obtain ⟨b, off, rfl, hb, hcell⟩ := h (by omega)
  refine ⟨b, off + s * 2, by simp [WideShapes.add_plain], hb, fun j hj => ?_⟩
  rw [hl] at hj
  have := hcell (s + j) (by omega)
  rw [List.getElem_take, List.getElem_drop]
  rw [show off + s * 2 + j * 2 = off + (s + j) * 2 by omega]
  exact this
theorem ML.part0 {m : Value} {w : World} {A : Option Addr} {n c : Nat} {l : List UInt8} (h : ML m w (.slice A n c) l) {s e : Nat} (hse : s ≤ e) (he : e ≤ n) (hc : c = s) : ML m w (.slice A (e - s) 0) ((l.drop s).take (e - s)) := by
  obtain ⟨A', c', e1, hc1, h⟩ := h
  injection e1 with e1 e2 e3
  subst e1 e2 e3
  have hl : ((l.drop s).take (e - s)).length = e - s := by rw [List.length_take, List.length_drop]; omega
  exact ⟨_, _, by rw [hl], by rw [hl]; omega, fun hp => by rw [hl] at hp; omega⟩
theorem ML.len {m : Value} {w : World} {A : Option Addr} {n c : Nat} {l : List UInt8} (h : ML m w (.slice A n c) l) : n = l.length ∧ n ≤ c := by
  obtain ⟨_, _, e, hc, _⟩ := h; injection e with e1 e2 e3; subst e2 e3; exact ⟨rfl, hc⟩
theorem ML.at {m : Value} {w : World} {A : Option Addr} {n c : Nat} {l : List UInt8} (h : ML m w (.slice A n c) l) {i : Nat} (hi : i < l.length) : ∃ b off, A = some ⟨b, off, none⟩ ∧ b < w.heap.size ∧ w.cell? ⟨b, off + i * 2, none⟩ = some (.int .u8 (l[i].toNat : Int)) ∧ w.cell? ⟨b, off + i * 2 + 1, none⟩ = some m := by
  obtain ⟨A', c', e, hc, h⟩ := h
  injection e with e1 e2 e3
  subst e1
  obtain ⟨b, off, rfl, hb, hcell⟩ := h (by omega)
  exact ⟨b, off, rfl, hb, (hcell i hi).1, (hcell i hi).2⟩

theorem ML.one {m : Value} {w : World} {v : Value} {l : List UInt8} (h : ML m w v l) : v.oneCell' = true := by
  obtain ⟨A, c, rfl, _⟩ := h; rfl
/-- what is written, over [][]marked bytes: an own row of slices that read as the fields -/
def FLs (m : Value) (w : World) (vs : List Value) (fs : List (List UInt8)) : Prop := vs.length = fs.length ∧ ∀ j (h : j < vs.length) (h' : j < fs.length), ML m w vs[j] fs[j]
theorem FLs.nil (m : Value) (w : World) : FLs m w [] [] := ⟨rfl, fun j h => by simp at h⟩
theorem FLs.keep {m : Value} {w w' : World} {vs : List Value} {fs : List (List UInt8)} (h : FLs m w vs fs) (hb : Below w.heap.size w w') : FLs m w' vs fs := ⟨h.1, fun j h1 h2 => (h.2 j h1 h2).keep hb⟩
theorem FLs.snoc {m : Value} {w : World} {vs : List Value} {fs : List (List UInt8)} {v : Value} {f : List UInt8} (h : FLs m w vs fs) (hv : ML m w v f) : FLs m w (vs ++ [v]) (fs ++ [f]) := by
  refine ⟨by simp [h.1], fun j h1 h2 => ?_⟩
  by_cases hj : j < vs.length
  · rw [List.getElem_append_left hj, List.getElem_append_left (by rw [← h.1]; exact hj)]
    exact h.2 j hj _
  · have : j = vs.length := by simp at h1; omega
    subst this
    rw [List.getElem_append_right (Nat.le_refl _), List.getElem_append_right (by rw [h.1]; exact Nat.le_refl _)]
    simpa using hv
theorem FLs.one {m : Value} {w : World} {vs : List Value} {fs : List (List UInt8)} (h : FLs m w vs fs) : ∀ u ∈ vs, u.oneCell' = true := fun u hu => by
  obtain ⟨j, hj, rfl⟩ := List.getElem_of_mem hu
  obtain ⟨A, c, e, _⟩ := h.2 j hj (by rw [← h.1]; exact hj)
  rw [e]; rfl

end Go.Proofs.YtbgmjmooifjhjaaDoor
