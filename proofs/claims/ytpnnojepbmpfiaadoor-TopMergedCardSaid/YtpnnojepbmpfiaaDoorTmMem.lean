/- TopMerged: texts and hunks in memory. -/
import Derived.Test.YtpnnojepbmpfiaaDoorSplitStrs
import Derived.Test.YtpnnojepbmpfiaaDoorTmFin
import Derived.Test.YtpnnojepbmpfiaaDoorSmStb
import Derived.Deep.AppendLies
namespace Go.Proofs.YtpnnojepbmpfiaaDoor
open Go.RowKit

/-- the cells of hunks -/
def prE (l : List EV) : List Value := l.flatMap fun e => [k0 e, k1 e, k2 e, k3 e]
theorem prE_len (l : List EV) : (prE l).length = l.length * 4 := by
  induction l with
  | nil => rfl
  | cons b r ih => simp only [prE, List.flatMap_cons, List.length_append, List.length_cons, List.length_nil] at *; omega
theorem prE_at (l : List EV) (j : Nat) (h : j < l.length) : (prE l)[j * 4]? = some (k0 l[j]) ∧ (prE l)[j * 4 + 1]? = some (k1 l[j]) ∧ (prE l)[j * 4 + 2]? = some (k2 l[j]) ∧ (prE l)[j * 4 + 3]? = some (k3 l[j]) := by
  induction l generalizing j with
  | nil => simp at h
  | cons b r ih =>
    cases j with
    | zero => exact ⟨rfl, rfl, rfl, rfl⟩
    | succ j =>
      have := ih j (by simpa using h)
      rw [show (j + 1) * 4 = j * 4 + 4 by omega]
      exact this
theorem prE_one (l : List EV) : ∀ u ∈ prE l, u.oneCell' = true := fun u hu => by
  simp only [prE, List.mem_flatMap, List.mem_cons, List.not_mem_nil, or_false] at hu
  obtain ⟨b, _, rfl | rfl | rfl | rfl⟩ := hu <;> rfl
theorem prE_app (l m : List EV) : prE (l ++ m) = prE l ++ prE m := by simp [prE]
/-- the elements, where they lie -/
def PrE (b off : Nat) (L : List EV) (w : World) : Prop := b < w.heap.size ∧ ∀ j (h : j < L.length), w.cell? ⟨b, off + j * 4, none⟩ = some (k0 L[j]) ∧ w.cell? ⟨b, off + j * 4 + 1, none⟩ = some (k1 L[j]) ∧ w.cell? ⟨b, off + j * 4 + 2, none⟩ = some (k2 L[j]) ∧ w.cell? ⟨b, off + j * 4 + 3, none⟩ = some (k3 L[j])
theorem PrE.keep {b off : Nat} {L : List EV} {w w' : World} (h : PrE b off L w) (hb : Below w.heap.size w w') : PrE b off L w' := by
  refine ⟨Nat.lt_of_lt_of_le h.1 hb.size, fun j hj => ?_⟩
  obtain ⟨h0, h1, h2, h3⟩ := h.2 j hj
  have hc : ∀ i, w'.cell? ⟨b, i, none⟩ = w.cell? ⟨b, i, none⟩ := fun i => hb.cell (p := ⟨b, i, none⟩) h.1
  exact ⟨(hc _).trans h0, (hc _).trans h1, (hc _).trans h2, (hc _).trans h3⟩
/-- v is a slice of these elements -/
def KE (w : World) (v : Value) (L : List EV) : Prop :=
  ∃ A c, v = .slice A L.length c ∧ L.length ≤ c ∧ (A = none → c = 0) ∧ (0 < L.length → ∃ b off, A = some ⟨b, off, none⟩ ∧ PrE b off L w)
theorem KE.keep {w w' : World} {v : Value} {l : List EV} (h : KE w v l) (hb : Below w.heap.size w w') : KE w' v l := by
  obtain ⟨A, c, rfl, hc, hA, h⟩ := h
  refine ⟨A, c, rfl, hc, hA, fun hn => ?_⟩
  obtain ⟨b, off, rfl, hp⟩ := h hn
  exact ⟨b, off, rfl, hp.keep hb⟩
theorem KE.of_own {w : World} {base : Nat} {e : TypeId} {v : Value} {n : Nat} {l : List EV} (h : w.ownsRow base e 4 v n (prE l)) : KE w v l := by
  have hn : l.length = n := by have := h.1; rw [prE_len] at this; omega
  subst hn
  rcases h.2 with ⟨rfl, h0⟩ | ⟨g, cap, cur, rfl, _, hh, hcap, _, _, ht⟩
  · have : l = [] := List.length_eq_zero_iff.1 h0
    subst this
    exact ⟨none, 0, rfl, by simp, fun _ => rfl, fun hp => by simp at hp⟩
  · refine ⟨_, cap, rfl, hcap, fun e => (by cases e), fun hp => ⟨g, 0, rfl, (h.lt g rfl).2, fun j hj => ?_⟩⟩
    obtain ⟨a0, a1, a2, a3⟩ := prE_at l j hj
    have h0 := h.cells (g := g) rfl (j * 4) _ a0
    have h1 := h.cells (g := g) rfl (j * 4 + 1) _ a1
    have h2 := h.cells (g := g) rfl (j * 4 + 2) _ a2
    have h3 := h.cells (g := g) rfl (j * 4 + 3) _ a3
    rw [WideShapes.add_plain] at h0 h1 h2 h3
    exact ⟨h0, by rw [← h1, Nat.add_assoc], by rw [← h2, Nat.add_assoc], by rw [← h3, Nat.add_assoc]⟩
/-- an element that is a hunk -/
structure IsHK (w : World) (e : EV) (h : HK) : Prop where
  fr : e.1 = (h.fr : Int)
  tb : e.2.1 = (h.tb : Int)
  old : SL w (.slice e.2.2.1.1 e.2.2.1.2.1 e.2.2.1.2.2) h.old
  new : SL w (.slice e.2.2.2.1 e.2.2.2.2.1 e.2.2.2.2.2) h.new
theorem IsHK.keep {w w' : World} {e : EV} {h : HK} (k : IsHK w e h) (hb : Below w.heap.size w w') : IsHK w' e h := ⟨k.fr, k.tb, k.old.keep hb, k.new.keep hb⟩
/-- elements that are hunks -/
inductive AreHK (w : World) : List EV → List HK → Prop
  | nil : AreHK w [] []
  | cons {e : EV} {h : HK} {E : List EV} {H : List HK} : IsHK w e h → AreHK w E H → AreHK w (e :: E) (h :: H)
theorem AreHK.keep {w w' : World} (hb : Below w.heap.size w w') : ∀ {E : List EV} {H : List HK}, AreHK w E H → AreHK w' E H
  | _, _, .nil => .nil
  | _, _, .cons h t => .cons (h.keep hb) (t.keep hb)
theorem AreHK.len {w : World} : ∀ {E : List EV} {H : List HK}, AreHK w E H → E.length = H.length
  | _, _, .nil => rfl
  | _, _, .cons _ t => by simp [t.len]
theorem AreHK.app {w : World} : ∀ {E F : List EV} {H G : List HK}, AreHK w E H → AreHK w F G → AreHK w (E ++ F) (H ++ G)
  | _, _, _, _, .nil, g => g
  | _, _, _, _, .cons h t, g => .cons h (t.app g)
theorem AreHK.at {w : World} : ∀ {E : List EV} {H : List HK}, AreHK w E H → ∀ (i : Nat) (he : i < E.length) (hh : i < H.length), IsHK w E[i] H[i]
  | _, _, .cons h _, 0, _, _ => h
  | _, _, .cons _ t, i + 1, he, hh => t.at i (by simpa using he) (by simpa using hh)
/-- v is a slice of these hunks -/
def HL (w : World) (v : Value) (H : List HK) : Prop := ∃ E, KE w v E ∧ AreHK w E H
theorem HL.keep {w w' : World} {v : Value} {H : List HK} (h : HL w v H) (hb : Below w.heap.size w w') : HL w' v H := by
  obtain ⟨E, h1, h2⟩ := h
  exact ⟨E, h1.keep hb, h2.keep hb⟩
theorem hunkInfo : (Tryd.prog.info? 68).map (fun i => (i.zero, i.size, i.bytes)) = some (some (.agg #[.int .i64 0, .int .i64 0, .slice none 0 0, .slice none 0 0]), 4, 64) := by kernel_rfl
/-- hunks that are being built -/
structure OutH (w0 : World) (vo : Value) (E : List EV) (wx : World) : Prop where
  own : wx.ownsRow w0.heap.size 68 4 vo E.length (prE E)
  below : Below w0.heap.size w0 wx
theorem OutH.start {w0 wx : World} (h : Below w0.heap.size w0 wx) : OutH w0 (.slice none 0 0) [] wx := ⟨World.ownsRow_nil _ _ _ _, h⟩
theorem OutH.keep {w0 wx w' : World} {vo : Value} {E : List EV} (h : OutH w0 vo E wx) (hb : Below wx.heap.size wx w') : OutH w0 vo E w' :=
  ⟨h.own.kept (row := none) ⟨hb.os, hb.tape, hb.output, hb.size, fun k hk _ => hb.block k hk⟩ (Classical.em _), h.below.trans (hb.mono h.below.size)⟩
theorem OutH.append {w0 wx w' : World} {vo v' : Value} {E : List EV} {e : EV} (h : OutH w0 vo E wx) (hown : w'.ownsRow w0.heap.size 68 4 v' (E.length + 1) (prE E ++ [k0 e, k1 e, k2 e, k3 e])) (hg : wx.grownBy w' vo.ownBlock) : OutH w0 v' (E ++ [e]) w' := by
  refine ⟨?_, h.below.grown hg (by have := h.below.size; omega) (fun g hg => (h.own.lt g hg).1)⟩
  rw [List.length_append, prE_app]
  exact hown
theorem OutH.ke {w0 wx : World} {vo : Value} {E : List EV} (h : OutH w0 vo E wx) : KE wx vo E := KE.of_own h.own
end Go.Proofs.YtpnnojepbmpfiaaDoor
