/- Shell states in memory: variables (six cells each), states. -/
import Derived.Test.YtiapondfajmkaaaGreatDoorSvLaw
import Derived.Test.YtiapondfajmkaaaGreatDoorSvStr
import Derived.Deep.AppendLies
namespace Go.Proofs.YtiapondfajmkaaaGreatDoor
open Go.RowKit

abbrev SV := Option Addr × Nat × Nat
abbrev sv (s : SV) : Value := .slice s.1 s.2.1 s.2.2
/-- a variable, and the slice of its list -/
abbrev VE := VarV × SV
def cellsV (p : VE) : List Value := [.string p.1.nm, .string p.1.vl, .bool p.1.il, sv p.2, .bool p.1.ex, .bool p.1.fx]
def aggV (p : VE) : Value := .agg #[.string p.1.nm, .string p.1.vl, .bool p.1.il, sv p.2, .bool p.1.ex, .bool p.1.fx]
def prV (l : List VE) : List Value := l.flatMap cellsV
theorem prV_len (l : List VE) : (prV l).length = l.length * 6 := by
  induction l with
  | nil => rfl
  | cons b r ih =>
    have : (prV (b :: r)).length = 6 + (prV r).length := by simp [prV, cellsV]; omega
    rw [this, ih, List.length_cons]
    omega
theorem prV_app (l m : List VE) : prV (l ++ m) = prV l ++ prV m := by simp [prV]
theorem prV_at (l : List VE) (j : Nat) (h : j < l.length) : (prV l)[j * 6]? = some (.string l[j].1.nm) ∧ (prV l)[j * 6 + 1]? = some (.string l[j].1.vl) ∧ (prV l)[j * 6 + 2]? = some (.bool l[j].1.il) ∧ (prV l)[j * 6 + 3]? = some (sv l[j].2) ∧ (prV l)[j * 6 + 4]? = some (.bool l[j].1.ex) ∧ (prV l)[j * 6 + 5]? = some (.bool l[j].1.fx) := by
  induction l generalizing j with
  | nil => simp at h
  | cons b r ih =>
    cases j with
    | zero => exact ⟨rfl, rfl, rfl, rfl, rfl, rfl⟩
    | succ j =>
      have := ih j (by simpa using h)
      rw [show (j + 1) * 6 = j * 6 + 6 by omega]
      exact this
theorem prV_one (l : List VE) : ∀ u ∈ prV l, u.oneCell' = true := fun u hu => by
  simp only [prV, cellsV, List.mem_flatMap, List.mem_cons, List.not_mem_nil, or_false] at hu
  obtain ⟨b, _, rfl | rfl | rfl | rfl | rfl | rfl⟩ := hu <;> rfl
theorem varInfo : (Tryz.prog.info? 32).map (fun i => (i.zero, i.size, i.bytes)) = some (some (.agg #[.string ⟨#[]⟩, .string ⟨#[]⟩, .bool false, .slice none 0 0, .bool false, .bool false]), 6, 72) := by kernel_rfl
/-- variables in memory -/
def VL (w : World) (v : Value) (L : List VarV) : Prop :=
  ∃ (P : List VE) (A : Option Addr) (c : Nat), v = .slice A P.length c ∧ P.length ≤ c ∧ (A = none → c = 0) ∧ P.map Prod.fst = L ∧ (∀ p ∈ P, SL w (sv p.2) p.1.ls) ∧ (0 < P.length → ∃ b off, A = some ⟨b, off, none⟩ ∧ b < w.heap.size ∧ ∀ j (h : j < P.length), w.cell? ⟨b, off + j * 6, none⟩ = some (.string P[j].1.nm) ∧ w.cell? ⟨b, off + j * 6 + 1, none⟩ = some (.string P[j].1.vl) ∧ w.cell? ⟨b, off + j * 6 + 2, none⟩ = some (.bool P[j].1.il) ∧ w.cell? ⟨b, off + j * 6 + 3, none⟩ = some (sv P[j].2) ∧ w.cell? ⟨b, off + j * 6 + 4, none⟩ = some (.bool P[j].1.ex) ∧ w.cell? ⟨b, off + j * 6 + 5, none⟩ = some (.bool P[j].1.fx))
theorem VL.keep {w w' : World} {v : Value} {L : List VarV} (h : VL w v L) (hb : Below w.heap.size w w') : VL w' v L := by
  obtain ⟨P, A, c, e, hc, hA, hm, hs, h⟩ := h
  refine ⟨P, A, c, e, hc, hA, hm, fun p hp => (hs p hp).keep hb, fun h0 => ?_⟩
  obtain ⟨b, off, e2, hl, h2⟩ := h h0
  refine ⟨b, off, e2, Nat.lt_of_lt_of_le hl hb.size, fun j hj => ?_⟩
  obtain ⟨q0, q1, q2, q3, q4, q5⟩ := h2 j hj
  have hc : ∀ i, w'.cell? ⟨b, i, none⟩ = w.cell? ⟨b, i, none⟩ := fun i => hb.cell (p := ⟨b, i, none⟩) hl
  exact ⟨(hc _).trans q0, (hc _).trans q1, (hc _).trans q2, (hc _).trans q3, (hc _).trans q4, (hc _).trans q5⟩
theorem VL.at {w : World} {A : Option Addr} {n c : Nat} {L : List VarV} (h : VL w (.slice A n c) L) : n = L.length ∧ n ≤ c ∧ (A = none → c = 0) ∧ ∀ i (hi : i < L.length), ∃ b off s, A = some ⟨b, off, none⟩ ∧ b < w.heap.size ∧ SL w (sv s) L[i].ls ∧ w.cell? ⟨b, off + i * 6, none⟩ = some (.string L[i].nm) ∧ w.cell? ⟨b, off + i * 6 + 1, none⟩ = some (.string L[i].vl) ∧ w.cell? ⟨b, off + i * 6 + 2, none⟩ = some (.bool L[i].il) ∧ w.cell? ⟨b, off + i * 6 + 3, none⟩ = some (sv s) ∧ w.cell? ⟨b, off + i * 6 + 4, none⟩ = some (.bool L[i].ex) ∧ w.cell? ⟨b, off + i * 6 + 5, none⟩ = some (.bool L[i].fx) := by
  obtain ⟨P, A', c', e, hc, hA, rfl, hs, hx⟩ := h
  injection e with e1 e2 e3
  subst e1 e2 e3
  refine ⟨by simp, hc, hA, fun i hi => ?_⟩
  rw [List.length_map] at hi
  obtain ⟨b, off, rfl, hl, h2⟩ := hx (by omega)
  rw [List.getElem_map]
  exact ⟨b, off, P[i].2, rfl, hl, hs _ (List.getElem_mem hi), h2 i hi⟩
theorem VL.of_own {w : World} {base n : Nat} {e : TypeId} {v : Value} {P : List VE} (h : w.ownsRow base e 6 v n (prV P)) (hs : ∀ p ∈ P, SL w (sv p.2) p.1.ls) : VL w v (P.map Prod.fst) := by
  have hn : P.length = n := by have := h.1; rw [prV_len] at this; omega
  subst hn
  rcases h.2 with ⟨rfl, h0⟩ | ⟨g, cap, cur, rfl, _, hh, hcap, _, _, ht⟩
  · obtain rfl : P = [] := List.length_eq_zero_iff.1 h0
    exact ⟨[], none, 0, rfl, by simp, fun _ => rfl, rfl, (fun p hp => by cases hp), (fun hp => by simp at hp)⟩
  · refine ⟨P, _, cap, rfl, hcap, fun e => (by cases e), rfl, hs, fun hp => ⟨g, 0, rfl, (h.lt g rfl).2, fun j hj => ?_⟩⟩
    obtain ⟨a0, a1, a2, a3, a4, a5⟩ := prV_at P j hj
    have h0 := h.cells (g := g) rfl (j * 6) _ a0
    have h1 := h.cells (g := g) rfl (j * 6 + 1) _ a1
    have h2 := h.cells (g := g) rfl (j * 6 + 2) _ a2
    have h3 := h.cells (g := g) rfl (j * 6 + 3) _ a3
    have h4 := h.cells (g := g) rfl (j * 6 + 4) _ a4
    have h5 := h.cells (g := g) rfl (j * 6 + 5) _ a5
    rw [WideShapes.add_plain] at h0 h1 h2 h3 h4 h5
    exact ⟨h0, by rw [← h1, Nat.add_assoc], by rw [← h2, Nat.add_assoc], by rw [← h3, Nat.add_assoc], by rw [← h4, Nat.add_assoc], by rw [← h5, Nat.add_assoc]⟩
/-- a state's slices -/
structure ShP where
  ar : SV
  vs : SV
/-- a state's cells -/
def cellsS (S : ShV) (p : ShP) : Array Value := #[.string S.nm, sv p.ar, sv p.vs, .slice none 0 0, .slice none 0 0, .int .i64 S.op, .int .i64 S.st, .int .i64 S.msk, .string S.dr]
/-- a state in memory -/
structure ShM (w : World) (S : ShV) (p : ShP) : Prop where
  ar : SL w (sv p.ar) S.ar
  vs : VL w (sv p.vs) S.vs
theorem ShM.keep {w w' : World} {S : ShV} {p : ShP} (h : ShM w S p) (hb : Below w.heap.size w w') : ShM w' S p := ⟨h.ar.keep hb, h.vs.keep hb⟩
end Go.Proofs.YtiapondfajmkaaaGreatDoor
