/- DrawingShows, what holds between the keys: the law's line, its screen, what the screen shows. -/
import Derived.Test.YtokmiommhfbkeaaGreatDoorStrs
import Derived.Test.YtokmiommhfbkeaaGreatDoorPressAny
import Derived.Test.YtokmiommhfbkeaaGreatDoorBase
import Derived.IntWalk
import Derived.Test.YtokmiommhfbkeaaGreatDoorViewB
import Derived.Test.YtokmiommhfbkeaaGreatDoorUndoLaw
import Derived.Test.YtokmiommhfbkeaaGreatDoorEditR
import Derived.Test.YtokmiommhfbkeaaGreatDoorShowLaw
import Derived.Lib.MapLaws
import Derived.Test.YtokmiommhfbkeaaGreatDoorShowView
import Derived.Test.YtokmiommhfbkeaaGreatDoorShowTerm
import Derived.Test.YtokmiommhfbkeaaGreatDoorDrawB
namespace Go.Proofs.YtokmiommhfbkeaaGreatDoor
open Go.RowKit

def prC (l : List (Int × Int)) : List Value := l.flatMap fun b => [.int .i64 b.1, .int .i64 b.2]
theorem prC_len (l : List (Int × Int)) : (prC l).length = l.length * 2 := by
  induction l with
  | nil => rfl
  | cons b r ih => simp only [prC, List.flatMap_cons, List.length_append, List.length_cons, List.length_nil] at *; omega
theorem prC_at (l : List (Int × Int)) (j : Nat) (h : j < l.length) : (prC l)[j * 2]? = some (.int .i64 l[j].1) ∧ (prC l)[j * 2 + 1]? = some (.int .i64 l[j].2) := by
  induction l generalizing j with
  | nil => simp at h
  | cons b r ih =>
    cases j with
    | zero => exact ⟨rfl, rfl⟩
    | succ j =>
      have := ih j (by simpa using h)
      rw [show (j + 1) * 2 = j * 2 + 2 by omega, show j * 2 + 2 + 1 = (j * 2 + 1) + 2 by omega]
      exact this
theorem prC_one (l : List (Int × Int)) : ∀ u ∈ prC l, u.oneCell' = true := fun u hu => by
  simp only [prC, List.mem_flatMap, List.mem_cons, List.not_mem_nil, or_false] at hu
  obtain ⟨b, _, rfl | rfl⟩ := hu <;> rfl
/-- v is a slice of pairs of numbers -/
def KQ (w : World) (v : Value) (n : Nat) : Prop :=
  ∃ A c, v = .slice A n c ∧ n ≤ c ∧ (0 < n → ∃ b off, A = some ⟨b, off, none⟩ ∧ b < w.heap.size ∧ ∀ j, j < n → ∃ x y : Int, w.cell? ⟨b, off + j * 2, none⟩ = some (.int .i64 x) ∧ w.cell? ⟨b, off + j * 2 + 1, none⟩ = some (.int .i64 y) ∧ -9223372036854775808 ≤ y ∧ y ≤ 9223372036854775807)
/-- the pairs, where they lie -/
def PrC (b off : Nat) (L : List (Int × Int)) (w : World) : Prop := b < w.heap.size ∧ ∀ j (h : j < L.length), w.cell? ⟨b, off + j * 2, none⟩ = some (.int .i64 L[j].1) ∧ w.cell? ⟨b, off + j * 2 + 1, none⟩ = some (.int .i64 L[j].2)
theorem PrC.keep {b off : Nat} {L : List (Int × Int)} {w w' : World} (h : PrC b off L w) (hb : Below w.heap.size w w') : PrC b off L w' :=
  ⟨Nat.lt_of_lt_of_le h.1 hb.size, fun j hj => ⟨(hb.cell (p := ⟨b, off + j * 2, none⟩) h.1).trans (h.2 j hj).1, (hb.cell (p := ⟨b, off + j * 2 + 1, none⟩) h.1).trans (h.2 j hj).2⟩⟩
theorem PrC.set_ {b off : Nat} {L : List (Int × Int)} {w : World} (h : PrC b off L w) {g : Nat} (hne : b ≠ g) (i : Nat) (u : Value) : PrC b off L (w.setCell ⟨g, i, none⟩ u) :=
  ⟨by simpa [World.setCell] using h.1, fun j hj => ⟨by rw [World.cell?_setCell_other _ _ _ _ (by intro e; injection e; omega)]; exact (h.2 j hj).1, by rw [World.cell?_setCell_other _ _ _ _ (by intro e; injection e; omega)]; exact (h.2 j hj).2⟩⟩
/-- v is a slice of these pairs -/
def KP (w : World) (v : Value) (L : List (Int × Int)) : Prop :=
  ∃ A c, v = .slice A L.length c ∧ L.length ≤ c ∧ (0 < L.length → ∃ b off, A = some ⟨b, off, none⟩ ∧ PrC b off L w)
def Lim (L : List (Int × Int)) : Prop := ∀ p ∈ L, -9223372036854775808 ≤ p.2 ∧ p.2 ≤ 9223372036854775807
theorem pairs_of {P : Nat → Int → Int → Prop} : ∀ n, (∀ j, j < n → ∃ x y, P j x y) → ∃ L : List (Int × Int), L.length = n ∧ ∀ j (h : j < L.length), P j L[j].1 L[j].2
  | 0, _ => ⟨[], rfl, fun j h => absurd h (Nat.not_lt_zero _)⟩
  | n + 1, h => by
    obtain ⟨L, hl, hL⟩ := pairs_of n (fun j hj => h j (by omega))
    obtain ⟨x, y, hxy⟩ := h n (by omega)
    refine ⟨L ++ [(x, y)], by simp [hl], fun j hj => ?_⟩
    by_cases hjl : j < L.length
    · rw [List.getElem_append_left hjl]; exact hL j hjl
    · have hjn : j = n := by simp at hj; omega
      subst hjn
      rw [List.getElem_append_right (by omega)]
      simpa using hxy
theorem KP.of {w : World} {v : Value} {n : Nat} (h : KQ w v n) : ∃ L, KP w v L ∧ Lim L ∧ L.length = n := by
  obtain ⟨A, c, rfl, hc, h⟩ := h
  rcases Nat.eq_zero_or_pos n with h0 | h0
  · subst h0
    exact ⟨[], ⟨A, c, rfl, hc, fun hp => absurd hp (Nat.lt_irrefl _)⟩, fun p hp => by simp at hp, rfl⟩
  · obtain ⟨b, off, rfl, hlt, hcell⟩ := h h0
    obtain ⟨L, hl, hL⟩ := pairs_of n hcell
    refine ⟨L, ⟨_, c, by rw [hl], by omega, fun _ => ⟨b, off, rfl, hlt, fun j hj => ⟨(hL j hj).1, (hL j hj).2.1⟩⟩⟩, fun p hp => ?_, hl⟩
    obtain ⟨j, hj, rfl⟩ := List.getElem_of_mem hp
    exact (hL j hj).2.2
theorem KP.keep {w w' : World} {v : Value} {l : List (Int × Int)} (h : KP w v l) (hb : Below w.heap.size w w') : KP w' v l := by
  obtain ⟨A, c, rfl, hc, h⟩ := h
  refine ⟨A, c, rfl, hc, fun hn => ?_⟩
  obtain ⟨b, off, rfl, hp⟩ := h hn
  exact ⟨b, off, rfl, hp.keep hb⟩
theorem KP.of_own {w : World} {base : Nat} {e : TypeId} {v : Value} {n : Nat} {l : List (Int × Int)} (h : w.ownsRow base e 2 v n (prC l)) : KP w v l := by
  have hn : l.length = n := by have := h.1; rw [prC_len] at this; omega
  subst hn
  rcases h.2 with ⟨rfl, h0⟩ | ⟨g, cap, cur, rfl, _, hh, hcap, _, _, ht⟩
  · have : l = [] := by cases l with
      | nil => rfl
      | cons b r => simp at h0
    subst this
    exact ⟨none, 0, rfl, by simp, fun hp => by simp at hp⟩
  · refine ⟨_, cap, rfl, hcap, fun hp => ⟨g, 0, rfl, (h.lt g rfl).2, fun j hj => ?_⟩⟩
    have h1 := h.cells (g := g) rfl (j * 2) _ (prC_at l j hj).1
    have h2 := h.cells (g := g) rfl (j * 2 + 1) _ (prC_at l j hj).2
    rw [WideShapes.add_plain] at h1 h2
    exact ⟨h1, by rw [← h2, Nat.add_assoc]⟩
/-- the first of them -/
theorem KP.cut {w : World} {A : Option Addr} {n c : Nat} {L : List (Int × Int)} (h : KP w (.slice A n c) L) (m : Nat) (hm : m ≤ n) : KP w (.slice A m c) (L.take m) := by
  obtain ⟨A', c', e, hc, h⟩ := h
  injection e with e1 e2 e3
  subst e1 e2 e3
  refine ⟨A, c, by rw [List.length_take, Nat.min_eq_left hm], by rw [List.length_take]; omega, fun hp => ?_⟩
  rw [List.length_take] at hp
  obtain ⟨b, off, rfl, h1, h2⟩ := h (by omega)
  refine ⟨b, off, rfl, h1, fun j hj => ?_⟩
  rw [List.length_take] at hj
  rw [List.getElem_take]
  exact h2 j (by omega)
theorem pr_cells {w : World} {b off : Nat} {l : List (Int × Int)} (h : ∀ j (h : j < l.length), w.cell? ⟨b, off + j * 2, none⟩ = some (.int .i64 l[j].1) ∧ w.cell? ⟨b, off + j * 2 + 1, none⟩ = some (.int .i64 l[j].2)) :
    ∀ j u, (prC l)[j]? = some u → w.cell? ((⟨b, off, none⟩ : Addr).add j) = some u := fun j u hu => by
  have hj : j < l.length * 2 := by rw [← prC_len]; exact (List.getElem?_eq_some_iff.1 hu).1
  have hq := h (j / 2) (by omega)
  have he := prC_at l (j / 2) (by omega)
  rw [WideShapes.add_plain]
  rcases Nat.mod_two_eq_zero_or_one j with h0 | h0
  · have : j / 2 * 2 = j := by omega
    rw [this] at hq he
    rw [hq.1, ← hu, he.1]
  · have : j / 2 * 2 + 1 = j := by omega
    rw [this] at he
    rw [show off + j / 2 * 2 + 1 = off + j by omega] at hq
    rw [hq.2, ← hu, he.2]

end Go.Proofs.YtokmiommhfbkeaaGreatDoor

namespace Go.Proofs.YtokmiommhfbkeaaGreatDoor
open Go.RowKit

abbrev lnC (l : EL) (bv : Value) : Array Value := #[.string l.text, .int .i64 l.at', .string l.killed, .bool l.killing, bv, .int .i64 l.place, .string l.begun]
theorem below_seven2 {B0 B : Nat} {w0 w : World} (h : Below B0 w0 w) (hB : B0 ≤ B) (u0 u1 u2 u3 u4 u5 u6 : Value) :
    Below B0 w0 (((((((w.setCell ⟨B, 0, none⟩ u0).setCell ⟨B, 1, none⟩ u1).setCell ⟨B, 2, none⟩ u2).setCell ⟨B, 3, none⟩ u3).setCell ⟨B, 4, none⟩ u4).setCell ⟨B, 5, none⟩ u5).setCell ⟨B, 6, none⟩ u6) :=
  ((((((h.setCell (by exact hB) _).setCell (by exact hB) _).setCell (by exact hB) _).setCell (by exact hB) _).setCell (by exact hB) _).setCell (by exact hB) _).setCell (by exact hB) _

theorem blk_new_at2 {w : World} {g : Nat} (h : w.heap.size = g) (cs : Array Value) (t : TypeId) : Blk (w.alloc (.cells cs t)) g t cs := by subst h; exact heap_alloc_new w _
theorem set7' (a0 a1 a2 a3 a4 a5 a6 b0 b1 b2 b3 b4 b5 b6 : Value) :
    (((((((#[a0, a1, a2, a3, a4, a5, a6] : Array Value).setIfInBounds 0 b0).setIfInBounds 1 b1).setIfInBounds 2 b2).setIfInBounds 3 b3).setIfInBounds 4 b4).setIfInBounds 5 b5).setIfInBounds 6 b6 = #[b0, b1, b2, b3, b4, b5, b6] := by simp
theorem blk_set7' {w : World} {B : Nat} {t : TypeId} {a0 a1 a2 a3 a4 a5 a6 : Value} (h : Blk w B t #[a0, a1, a2, a3, a4, a5, a6]) (b0 b1 b2 b3 b4 b5 b6 : Value) :
    Blk (((((((w.setCell ⟨B, 0, none⟩ b0).setCell ⟨B, 1, none⟩ b1).setCell ⟨B, 2, none⟩ b2).setCell ⟨B, 3, none⟩ b3).setCell ⟨B, 4, none⟩ b4).setCell ⟨B, 5, none⟩ b5).setCell ⟨B, 6, none⟩ b6) B t #[b0, b1, b2, b3, b4, b5, b6] := by
  have := ((((((h.set_ 0 b0).set_ 1 b1).set_ 2 b2).set_ 3 b3).set_ 4 b4).set_ 5 b5).set_ 6 b6
  rwa [set7'] at this

theorem below_of_drew {a c : World} (k : Below a.drew.heap.size a.drew c) : Below a.heap.size a c := (Below.refl _ a).drew.trans k
theorem below_of_alloc_drew {a c : World} {o : Obj} (k : Below (a.alloc o).drew.heap.size (a.alloc o).drew c) : Below a.heap.size a c := ((Below.refl _ a).alloc (Nat.le_refl _) o).drew.trans (k.mono (by show _ ≤ (a.alloc o).heap.size; simp))
theorem below_step {a b c : World} (h : Below a.heap.size a b) (k : Below b.heap.size b c) : Below a.heap.size a c := h.trans (k.mono h.size)
theorem below_step_alloc {a b c : World} {o : Obj} (h : Below a.heap.size a b) (k : Below (b.alloc o).heap.size (b.alloc o) c) : Below a.heap.size a c := (h.alloc h.size o).trans (k.mono (Nat.le_trans h.size (by simp)))
theorem new_kept {b c : World} {cs : Array Value} {t : TypeId} (k : Below (b.alloc (.cells cs t)).heap.size (b.alloc (.cells cs t)) c) : Blk c b.heap.size t cs := (k.block _ (by simp)).trans (heap_alloc_new b _)
theorem new_kept_drew {b c : World} {cs : Array Value} {t : TypeId} (k : Below (b.alloc (.cells cs t)).drew.heap.size (b.alloc (.cells cs t)).drew c) : Blk c b.heap.size t cs := (k.block _ (by show _ < (b.alloc (.cells cs t)).heap.size; simp)).trans (heap_alloc_new b _)
theorem blk_keepB {b c : World} {g : Nat} {cs : Array Value} {t : TypeId} (h : Blk b g t cs) (k : Below b.heap.size b c) : Blk c g t cs := h.below k h.lt
theorem nine {a w : World} {B g : Nat} {u0 u1 u2 u3 u4 u5 u6 u7 u8 : Value} (hb : Below a.heap.size a w) (hB : B < a.heap.size) (hg : g < a.heap.size)
    (h : a.cell? ⟨B, 0, none⟩ = some u0 ∧ a.cell? ⟨B, 1, none⟩ = some u1 ∧ a.cell? ⟨B, 2, none⟩ = some u2 ∧ a.cell? ⟨B, 3, none⟩ = some u3 ∧ a.cell? ⟨B, 4, none⟩ = some u4 ∧ a.cell? ⟨B, 5, none⟩ = some u5 ∧ a.cell? ⟨B, 6, none⟩ = some u6 ∧ a.cell? ⟨g, 0, none⟩ = some u7 ∧ a.cell? ⟨g, 1, none⟩ = some u8) :
    w.cell? ⟨B, 0, none⟩ = some u0 ∧ w.cell? ⟨B, 1, none⟩ = some u1 ∧ w.cell? ⟨B, 2, none⟩ = some u2 ∧ w.cell? ⟨B, 3, none⟩ = some u3 ∧ w.cell? ⟨B, 4, none⟩ = some u4 ∧ w.cell? ⟨B, 5, none⟩ = some u5 ∧ w.cell? ⟨B, 6, none⟩ = some u6 ∧ w.cell? ⟨g, 0, none⟩ = some u7 ∧ w.cell? ⟨g, 1, none⟩ = some u8 := by
  obtain ⟨h0, h1, h2, h3, h4, h5, h6, h7, h8⟩ := h
  exact ⟨(hb.cell (p := ⟨B, 0, none⟩) hB).trans h0, (hb.cell (p := ⟨B, 1, none⟩) hB).trans h1, (hb.cell (p := ⟨B, 2, none⟩) hB).trans h2, (hb.cell (p := ⟨B, 3, none⟩) hB).trans h3, (hb.cell (p := ⟨B, 4, none⟩) hB).trans h4, (hb.cell (p := ⟨B, 5, none⟩) hB).trans h5, (hb.cell (p := ⟨B, 6, none⟩) hB).trans h6, (hb.cell (p := ⟨g, 0, none⟩) hg).trans h7, (hb.cell (p := ⟨g, 1, none⟩) hg).trans h8⟩

/-- what a press has told: its line in a new box, its error -/
def Told (wz wc : World) (r : EL × Int) (s9 s10 : Value) : Prop :=
  ∃ g9 v3, s9 = .pointer (some ⟨g9, 0, none⟩) ∧ s10 = .int .i64 r.2 ∧ Blk wc g9 37 (lnC r.1 v3) ∧ ES wc v3 r.1.before ∧ (∀ k, v3.ownBlock = some k → wz.heap.size ≤ k) ∧ wz.heap.size ≤ g9 ∧ Below wz.heap.size wz wc

theorem ES.setFar' {w : World} {v : Value} {l : List (ByteArray × Int)} {B : Nat} (h : ES w v l) (hv : ∀ k, v.ownBlock = some k → B < k) (i : Nat) (u : Value) : ES (w.setCell ⟨B, i, none⟩ u) v l := by
  obtain ⟨A, c, rfl, hc, h⟩ := h
  refine ⟨A, c, rfl, hc, fun hp => ?_⟩
  obtain ⟨b, off, rfl, hlt, hcell⟩ := h hp
  have hb : B < b := hv b rfl
  refine ⟨b, off, rfl, by simpa [World.setCell] using hlt, fun j hj => ⟨?_, ?_⟩⟩
  · rw [World.cell?_setCell_other _ _ _ _ (by intro e; injection e; omega)]; exact (hcell j hj).1
  · rw [World.cell?_setCell_other _ _ _ _ (by intro e; injection e; omega)]; exact (hcell j hj).2
theorem told_set {wz w3 : World} {g9 : Nat} {v3 : Value} {r : EL × Int} (hz : wz.heap.size ≤ g9) (K : Blk w3 g9 37 zeroL) (he : ES w3 v3 r.1.before) (hf : ∀ k, v3.ownBlock = some k → g9 < k) (hb : Below wz.heap.size wz w3) :
    Told wz (((((((w3.setCell ⟨g9, 0, none⟩ (.string r.1.text)).setCell ⟨g9, 1, none⟩ (.int .i64 r.1.at')).setCell ⟨g9, 2, none⟩ (.string r.1.killed)).setCell ⟨g9, 3, none⟩ (.bool r.1.killing)).setCell ⟨g9, 4, none⟩ v3).setCell ⟨g9, 5, none⟩ (.int .i64 r.1.place)).setCell ⟨g9, 6, none⟩ (.string r.1.begun)) r (.pointer (some ⟨g9, 0, none⟩)) (.int .i64 r.2) :=
  ⟨g9, v3, rfl, rfl, blk_set7' K _ _ _ _ _ _ _, ((((((he.setFar' hf 0 _).setFar' hf 1 _).setFar' hf 2 _).setFar' hf 3 _).setFar' hf 4 _).setFar' hf 5 _).setFar' hf 6 _,
    fun k hk => by have := hf k hk; omega, hz, below_seven2 hb hz _ _ _ _ _ _ _⟩
theorem told_new {wz w3 : World} {v3 : Value} {r : EL × Int} (he : ES w3 v3 r.1.before) (hf : ∀ k, v3.ownBlock = some k → wz.heap.size ≤ k) (hb : Below wz.heap.size wz w3) :
    Told wz (w3.alloc (.cells (lnC r.1 v3) 37)) r (.pointer (some ⟨w3.heap.size, 0, none⟩)) (.int .i64 r.2) :=
  ⟨w3.heap.size, v3, rfl, rfl, heap_alloc_new w3 _, he.keep ((Below.refl _ _).alloc (Nat.le_refl _) _), hf, hb.size, hb.alloc hb.size _⟩

/-- a whole line is stored into its box -/
abbrev sevenL (w : World) (B : Nat) (l : EL) (v : Value) : World := (((((((w.setCell ⟨B, 0, none⟩ (.string l.text)).setCell ⟨B, 1, none⟩ (.int .i64 l.at')).setCell ⟨B, 2, none⟩ (.string l.killed)).setCell ⟨B, 3, none⟩ (.bool l.killing)).setCell ⟨B, 4, none⟩ v).setCell ⟨B, 5, none⟩ (.int .i64 l.place)).setCell ⟨B, 6, none⟩ (.string l.begun))
theorem seven_same {w : World} {B : Nat} {t : TypeId} {l m : EL} {v u : Value} (h : Blk w B t (lnC l v)) : Blk (sevenL w B m u) B t (lnC m u) := blk_set7' h _ _ _ _ _ _ _
theorem seven_far {w : World} {B g : Nat} {t : TypeId} {cs : Array Value} (h : Blk w g t cs) (hne : g ≠ B) (l : EL) (v : Value) : Blk (sevenL w B l v) g t cs :=
  ((((((h.far (p := ⟨B, 0, none⟩) hne _).far (p := ⟨B, 1, none⟩) hne _).far (p := ⟨B, 2, none⟩) hne _).far (p := ⟨B, 3, none⟩) hne _).far (p := ⟨B, 4, none⟩) hne _).far (p := ⟨B, 5, none⟩) hne _).far (p := ⟨B, 6, none⟩) hne _
theorem seven_es {w : World} {B : Nat} {l : EL} {v u : Value} {b : List (ByteArray × Int)} (h : ES w u b) (hf : ∀ k, u.ownBlock = some k → B < k) : ES (sevenL w B l v) u b :=
  ((((((h.setFar' hf 0 _).setFar' hf 1 _).setFar' hf 2 _).setFar' hf 3 _).setFar' hf 4 _).setFar' hf 5 _).setFar' hf 6 _

end Go.Proofs.YtokmiommhfbkeaaGreatDoor

namespace Go.Proofs.YtokmiommhfbkeaaGreatDoor
open Go.RowKit

theorem tmod_lt' (n m : Int) (h : 0 < m) : -m < n.tmod m ∧ n.tmod m < m := by
  have h1 := Int.tmod_lt_of_pos n h
  have h2 := Int.lt_tmod_of_pos n h
  exact ⟨h2, h1⟩
/-- a number between 0 and high -/
def pw (n high : Int) : Int := n.tmod (high + 1) % (high + 1)
theorem pw_range (n high : Int) (h : 0 ≤ high) : 0 ≤ pw n high ∧ pw n high ≤ high := by
  unfold pw
  have a1 := Int.emod_nonneg (n.tmod (high + 1)) (show high + 1 ≠ 0 by omega)
  have a2 := Int.emod_lt_of_pos (n.tmod (high + 1)) (show 0 < high + 1 by omega)
  omega
set_option maxHeartbeats 800000 in
theorem pwithin_det (n high : Int) (w : World) (h0 : 0 ≤ high) (h1 : high ≤ 1000000) :
    Calls Tryz.prog 8 #[.int .i64 n, .int .i64 0, .int .i64 high] w fun e w' => e = .returned (.int .i64 (pw n high)) ∧ w = w' := by
  have HP := Lib.hid (show pw n high = n.tmod (high + 1) % (high + 1) from rfl)
  have HR := Lib.hid (pw_range n high h0)
  generalize pw n high = r at *
  obtain ⟨m, hm⟩ : ∃ m, high + 1 = m := ⟨_, rfl⟩
  rw [hm] at HP
  have hz : (m == 0) = false := by rw [beq_eq_false_iff_ne]; omega
  have ht := tmod_lt' n m (by omega)
  have hm0 : 0 < m := by omega
  have hm1 : m ≤ 1000001 := by omega
  go_enter Tryz.func8, Tryz.ntmps8
  go_wp2
  go_ret
  have a1 := Int.emod_nonneg (n.tmod m) (show m ≠ 0 by omega)
  have a2 := Int.emod_lt_of_pos (n.tmod m) hm0
  have hw : wrap64 (n.tmod m % m) = n.tmod m % m := by unfold wrap64; omega
  exact ⟨ret_int (by rw [hw, HP.out]), rfl⟩

def DetKey (kind byte : Int) (w : World) (e : Ending) (w' : World) : Prop := e = .returned (.agg #[.int .i64 kind, .int .i64 byte]) ∧ Below w.heap.size w w'
set_option maxRecDepth 100000 in
set_option maxHeartbeats 3200000 in
theorem keyOf_det (n b : Int) (hb1 : -9223372036854775808 ≤ b) (hb2 : b ≤ 9223372036854775807) :
    ∃ kind byte : Int, ∀ w, Calls Tryz.prog 15 #[.int .i64 n, .int .i64 b] w (DetKey kind byte w) := by
  have ht := tmod_lt' n 3 (by omega)
  have hq := tmod_lt' b 2 (by omega)
  have hp := pw_range n 23 (by omega)
  have hp5 := pw_range (b.tdiv 2) 5 (by omega)
  have hor : pw (b.tdiv 2) 5 = 0 ∨ pw (b.tdiv 2) 5 = 1 ∨ pw (b.tdiv 2) 5 = 2 ∨ pw (b.tdiv 2) 5 = 3 ∨ pw (b.tdiv 2) 5 = 4 ∨ pw (b.tdiv 2) 5 = 5 := by omega
  have HOR := Lib.hid hor
  clear hor hp5
  cases h3 : (n.tmod 3 != 0)
  · cases hk1 : (pw n 23 == 1)
    · cases hk2 : (pw n 23 == 22)
      · apply Exists.intro; apply Exists.intro; intro w
        go_enter Tryz.func15, Tryz.ntmps15
        go_wp2_with (go_at_call 8; refine (pwithin_det _ _ _ (by omega) (by omega)).mono ?_; rintro e w' ⟨rfl, rfl⟩)
        refine bodyPost_ret (v := .agg #[_, _]) (by simp [results, Tryz.results15, go_sem]; exact ⟨rfl, rfl⟩) rfl ⟨rfl, ?_⟩
        exact ((Below.refl _ w).alloc (Nat.le_refl _) _).alloc (by simp) _
      · cases h2 : (b.tmod 2 == 0)
        · apply Exists.intro; apply Exists.intro; intro w
          go_enter Tryz.func15, Tryz.ntmps15
          go_wp2_with (go_at_call 8; refine (pwithin_det _ _ _ (by omega) (by omega)).mono ?_; rintro e w' ⟨rfl, rfl⟩)
          refine bodyPost_ret (v := .agg #[_, _]) (by simp [results, Tryz.results15, go_sem]; exact ⟨rfl, rfl⟩) rfl ⟨rfl, ?_⟩
          exact ((Below.refl _ w).alloc (Nat.le_refl _) _).alloc (by simp) _
        · rcases HOR.out with hr | hr | hr | hr | hr | hr
          all_goals
            apply Exists.intro; apply Exists.intro; intro w
            go_enter Tryz.func15, Tryz.ntmps15
            go_wp2_with (go_at_call 8; refine (pwithin_det _ _ _ (by omega) (by omega)).mono ?_; rintro e w' ⟨rfl, rfl⟩)
            refine bodyPost_ret (v := .agg #[_, _]) (by simp [results, Tryz.results15, go_sem]; exact ⟨rfl, rfl⟩) rfl ⟨rfl, ?_⟩
            exact ((Below.refl _ w).alloc (Nat.le_refl _) _).alloc (by simp) _
    · cases h2 : (b.tmod 2 == 0)
      · apply Exists.intro; apply Exists.intro; intro w
        go_enter Tryz.func15, Tryz.ntmps15
        go_wp2_with (go_at_call 8; refine (pwithin_det _ _ _ (by omega) (by omega)).mono ?_; rintro e w' ⟨rfl, rfl⟩)
        refine bodyPost_ret (v := .agg #[_, _]) (by simp [results, Tryz.results15, go_sem]; exact ⟨rfl, rfl⟩) rfl ⟨rfl, ?_⟩
        exact ((Below.refl _ w).alloc (Nat.le_refl _) _).alloc (by simp) _
      · rcases HOR.out with hr | hr | hr | hr | hr | hr
        all_goals
          apply Exists.intro; apply Exists.intro; intro w
          go_enter Tryz.func15, Tryz.ntmps15
          go_wp2_with (go_at_call 8; refine (pwithin_det _ _ _ (by omega) (by omega)).mono ?_; rintro e w' ⟨rfl, rfl⟩)
          refine bodyPost_ret (v := .agg #[_, _]) (by simp [results, Tryz.results15, go_sem]; exact ⟨rfl, rfl⟩) rfl ⟨rfl, ?_⟩
          exact ((Below.refl _ w).alloc (Nat.le_refl _) _).alloc (by simp) _
  · cases h2 : (b.tmod 2 == 0)
    · apply Exists.intro; apply Exists.intro; intro w
      go_enter Tryz.func15, Tryz.ntmps15
      go_wp2_with (go_at_call 8; refine (pwithin_det _ _ _ (by omega) (by omega)).mono ?_; rintro e w' ⟨rfl, rfl⟩)
      refine bodyPost_ret (v := .agg #[_, _]) (by simp [results, Tryz.results15, go_sem]; exact ⟨rfl, rfl⟩) rfl ⟨rfl, ?_⟩
      exact ((Below.refl _ w).alloc (Nat.le_refl _) _).alloc (by simp) _
    · rcases HOR.out with hr | hr | hr | hr | hr | hr
      all_goals
        apply Exists.intro; apply Exists.intro; intro w
        go_enter Tryz.func15, Tryz.ntmps15
        go_wp2_with (go_at_call 8; refine (pwithin_det _ _ _ (by omega) (by omega)).mono ?_; rintro e w' ⟨rfl, rfl⟩)
        refine bodyPost_ret (v := .agg #[_, _]) (by simp [results, Tryz.results15, go_sem]; exact ⟨rfl, rfl⟩) rfl ⟨rfl, ?_⟩
        exact ((Below.refl _ w).alloc (Nat.le_refl _) _).alloc (by simp) _

end Go.Proofs.YtokmiommhfbkeaaGreatDoor

namespace Go.Proofs.YtokmiommhfbkeaaGreatDoor
open Go.RowKit

theorem shown_all : (List.range 256).all (fun k => rowB (shownB (UInt8.ofNat k))) = true := by decide +kernel
theorem shown_ok (c : UInt8) : rowB (shownB c) = true := by
  have h := List.all_eq_true.1 shown_all c.toNat (List.mem_range.2 c.toNat_lt)
  simpa using h
theorem rowB_iff (l : List UInt8) : rowB l = true ↔ ∀ c ∈ l, 32 ≤ c.toNat ∧ c.toNat ≤ 126 := by
  unfold rowB
  rw [List.all_eq_true]
  have hk : ∀ c : UInt8, okB c = true ↔ 32 ≤ c.toNat ∧ c.toNat ≤ 126 := fun c => by
    unfold okB withinB
    rw [Bool.and_eq_true, decide_eq_true_iff, decide_eq_true_iff]
    omega
  exact ⟨fun h c hc => (hk c).1 (h c hc), fun h c hc => (hk c).2 (h c hc)⟩
theorem rowK_row {p : List UInt8} (h : rowB p = true) (t : List UInt8) (k : Nat) : rowB (rowK p t k) = true := by
  rw [rowB_iff] at h ⊢
  intro c hc
  rcases List.mem_append.1 hc with hc | hc
  · exact h c hc
  · obtain ⟨d, _, hd⟩ := List.mem_flatMap.1 hc
    exact (rowB_iff _).1 (shown_ok d) c hd
theorem trimR_sub (l : List UInt8) (c : UInt8) : (∀ d ∈ Lib.trimRightB l c, d ∈ l) ∧ (Lib.trimRightB l c).length ≤ l.length := by
  unfold Lib.trimRightB
  refine ⟨fun d hd => ?_, ?_⟩
  · rw [List.mem_reverse] at hd
    have := (List.dropWhile_suffix (l := l.reverse) (p := (· == c))).subset hd
    simpa using this
  · have := (List.dropWhile_suffix (l := l.reverse) (p := (· == c))).length_le
    simpa using this
theorem trimR_end (l : List UInt8) (c : UInt8) : Lib.hasSuffix (Lib.trimRightB l c) [c] = false := by
  unfold Lib.hasSuffix Lib.trimRightB
  cases h : l.reverse.dropWhile (· == c) with
  | nil => rfl
  | cons a r =>
    have ha : (a == c) = false := by
      have := List.head_dropWhile_not (p := (· == c)) (l := l.reverse) (by rw [h]; simp)
      simpa [h] using this
    rw [Bool.eq_false_iff]
    intro hs
    rw [List.isSuffixOf_iff_suffix, ← List.reverse_prefix] at hs
    simp at hs
    rw [hs] at ha
    simp at ha
/-- what View shows of a right line fits a terminal's row -/
theorem view_fits {p t : List UInt8} {a : Nat} {wide : Int} (hp : rowB p = true) (h3 : 2 ≤ wide) :
    rowB (Lib.trimRightB (((rowK p t t.length).drop (leftV p t a wide)).take wide.toNat) 32) = true ∧ Lib.hasSuffix (Lib.trimRightB (((rowK p t t.length).drop (leftV p t a wide)).take wide.toNat) 32) [32] = false ∧
    (((Lib.trimRightB (((rowK p t t.length).drop (leftV p t a wide)).take wide.toNat) 32).length : Nat) : Int) ≤ wide ∧ 0 ≤ (colV p t a : Int) - leftV p t a wide ∧ (colV p t a : Int) - leftV p t a wide < wide := by
  refine ⟨?_, trimR_end _ _, ?_, ?_, ?_⟩
  · rw [rowB_iff]
    intro c hc
    exact (rowB_iff _).1 (rowK_row hp t t.length) c (List.mem_of_mem_drop (List.mem_of_mem_take ((trimR_sub _ _).1 c hc)))
  · have h1 := (trimR_sub (((rowK p t t.length).drop (leftV p t a wide)).take wide.toNat) 32).2
    have h2 : (((rowK p t t.length).drop (leftV p t a wide)).take wide.toNat).length ≤ wide.toNat := List.length_take_le _ _
    omega
  · unfold leftV
    omega
  · unfold leftV
    omega

/-- a mapping that keeps what one column takes -/
def keepR (x : Int) : Int := if x < 32 ∨ 126 < x then -1 else x
theorem enc_all : (List.range 127).all (fun k => decide (k < 32) || decide (Lib.encodeRune (k : Int) = [UInt8.ofNat k])) = true := by decide +kernel
theorem keep_row : ∀ (n : Nat) (l : List UInt8), (∀ c ∈ Lib.mapGoD keepR n l, 32 ≤ c.toNat ∧ c.toNat ≤ 126) ∧ (Lib.mapGoD keepR n l).length ≤ n
  | 0, _ => ⟨fun c hc => by simp [Lib.mapGoD] at hc, Nat.le_refl _⟩
  | n + 1, l => by
    have ih := keep_row n (l.drop (Lib.decodeL l).2)
    unfold Lib.mapGoD
    split
    · exact ⟨fun c hc => by simp at hc, Nat.zero_le _⟩
    · generalize (Lib.decodeL l).1 = x at *
      have hx : (if 0 ≤ keepR x then Lib.encodeRune (keepR x) else []) = [] ∨ (32 ≤ x ∧ x ≤ 126 ∧ (if 0 ≤ keepR x then Lib.encodeRune (keepR x) else []) = [UInt8.ofNat x]) := by
        unfold keepR
        by_cases h : (x : Int) < 32 ∨ 126 < (x : Int)
        · rw [if_pos h]; exact .inl rfl
        · rw [if_neg h, if_pos (by omega)]
          have := List.all_eq_true.1 enc_all x (List.mem_range.2 (by omega))
          rw [Bool.or_eq_true, decide_eq_true_iff, decide_eq_true_iff] at this
          exact .inr ⟨by omega, by omega, this.resolve_left (by omega)⟩
      rcases hx with hx | ⟨h1, h2, hx⟩
      · rw [hx, List.nil_append]
        exact ⟨ih.1, by omega⟩
      · rw [hx]
        refine ⟨fun c hc => ?_, by simpa using ih.2⟩
        rcases List.mem_append.1 hc with hc | hc
        · rw [List.mem_singleton.1 hc]
          have : (UInt8.ofNat x).toNat = x := by rw [UInt8.toNat_ofNat']; omega
          omega
        · exact ih.1 c hc

/-- a line that keys have made of the empty one -/
structure Kept (l : EL) : Prop where
  good : GL l
  len : l.before.length ≤ 100
  place : l.place = 0
theorem kept_empty : Kept emptyL := ⟨⟨Int.le_refl _, Int.le_refl _, ⟨by decide, fun c h => by simp [emptyL] at h⟩, ⟨by decide, fun c h => by simp [emptyL] at h⟩, ⟨by decide, fun c h => by simp [emptyL] at h⟩, fun s hs => by simp [emptyL] at hs⟩, by simp [emptyL], rfl⟩
theorem Kept.fit {l : EL} (h : Kept l) : Fit l :=
  ⟨by have := h.good.text.1; unfold maxLen; omega, by have := h.good.killed.1; unfold maxLen; omega, by have := h.good.begun.1; unfold maxLen; omega, by have := h.len; omega, fun s hs => by have := (h.good.state s hs).1.1; unfold maxLen; omega⟩
theorem Kept.pressed {l : EL} (h : Kept l) (n : Int) (hn : 0 ≤ n) : pressedE l [] n = 0 := by
  unfold pressedE
  rw [if_neg (by rw [(goodB_iff l).2 h.good]; simp), if_neg (by have := h.len; simp [histB]; omega), if_neg (by rw [h.place]; simp [withinB]; omega)]
theorem Kept.line {l : EL} (h : Kept l) : lineE l.text l.at' = 0 := by
  unfold lineE
  rw [if_pos]
  rw [Bool.and_eq_true, (lineB_iff _).2 h.good.text]
  have h1 := h.good.at0
  have h2 := h.good.at1
  exact ⟨by simp only [withinB, Bool.and_eq_true, decide_eq_true_eq]; omega, rfl⟩
theorem Kept.step {l : EL} (h : Kept l) {kind byte : Int} (hr : (pressL l [] kind byte).2 = 0) : Kept (pressL l [] kind byte).1 := by
  have hp := h.pressed (([] : List ByteArray).length : Int) (by simp)
  unfold pressL at *
  rw [if_neg (by simpa using hp)] at *
  by_cases hk : keyE kind byte = 0
  · rw [if_neg (by simpa using hk)]
    unfold keyL
    have hg : Kept { l with killing := false } := ⟨⟨h.good.at0, h.good.at1, h.good.text, h.good.begun, h.good.killed, h.good.state⟩, h.len, h.place⟩
    generalize ({ l with killing := false } : EL) = m at *
    dsimp only
    split
    · unfold undoL
      split
      · exact hg
      · rename_i b hb
        have hm := hg.good.state b (List.mem_of_getLast? hb)
        exact ⟨⟨hm.2.1, hm.2.2, hm.1, hg.good.begun, hg.good.killed, fun s hs => hg.good.state s ((List.dropLast_sublist _).subset hs)⟩, by have := hg.len; simp only [List.length_dropLast]; omega, hg.place⟩
    · split
      · unfold placeL
        rw [if_pos (by rw [h.place]; rfl)]
        exact hg
      · split
        · unfold placeL
          rw [if_pos (by rw [h.place]; rfl)]
          exact hg
        · refine ⟨change_good h.good hk, ?_, h.place⟩
          show (if _ then l.before else noted l).length ≤ 100
          split
          · exact h.len
          · unfold noted
            rw [List.length_drop, List.length_append]
            have := h.len
            simp only [List.length_cons, List.length_nil]
            omega
  · rw [if_pos hk] at hr
    exact absurd hr hk

theorem moved_len (f t : Int) (h0 : 0 ≤ f) (h1 : f ≤ 200) (h2 : 0 ≤ t) (h3 : t ≤ 200) : (movedL f t).length ≤ 30 := movedL_len f t h0 h1 h2 h3
/-- what Draw sends for two right rows -/
theorem draw_right {row tt : List UInt8} {col toCol : Int} (hr : rowB row = true) (hr2 : Lib.hasSuffix row [32] = false) (ht : rowB tt = true) (ht2 : Lib.hasSuffix tt [32] = false) (h1 : row.length ≤ 200) (h2 : tt.length ≤ 200) (h3 : 0 ≤ col) (h4 : col ≤ 200) (h5 : 0 ≤ toCol) (h6 : toCol ≤ 200) :
    (drawL row col tt toCol).2 = 0 ∧ (drawL row col tt toCol).1.length ≤ 300 := by
  unfold drawL wrongB
  rw [hr, hr2, ht, ht2, if_neg (by decide), if_neg (by omega), if_neg (by omega)]
  split
  · exact ⟨rfl, by have := moved_len col toCol h3 h4 h5 h6; dsimp only; omega⟩
  · refine ⟨rfl, ?_⟩
    have hc := comm_le row tt
    have m1 := moved_len col (comm row tt) h3 h4 (by omega) (by omega)
    have m2 := moved_len tt.length toCol (by omega) (by omega) h5 h6
    simp only [List.length_append, List.length_drop]
    split
    · simp only [List.length_cons, List.length_nil]; omega
    · simp only [List.length_nil]; omega

end Go.Proofs.YtokmiommhfbkeaaGreatDoor

namespace Go.Proofs.YtokmiommhfbkeaaGreatDoor
open Go.RowKit

/-- 'string(b)' of an own row -/
theorem row_string {w : World} {B n : Nat} {v : Value} {l : List UInt8} (h : w.ownsRow B 5 1 v n (bytesV l)) : (convert 50 9 v).run Tryz.prog w = .ok (.string ⟨l.toArray⟩) w := by
  have hn : l.length = n := by have := h.1; simpa [bytesV] using this
  subst hn
  rcases h.2 with ⟨rfl, h0⟩ | ⟨g, cap, cur, rfl, _⟩
  · have : l = [] := List.length_eq_zero_iff.1 h0
    subst this
    rw [run_convert_bytes_string w 50 9 5 none 0 0 Tryz.underlying50 Tryz.underlying5 Tryz.underlying9]
    simp [Conv.bytesToString]
    rfl
  · exact run_convert_bytes_back w 50 9 5 ⟨g, 0, none⟩ cap l Tryz.underlying50 Tryz.underlying5 Tryz.underlying9 (fun j hj => h.cells (g := g) rfl j _ (by simp [bytesV, hj]))

theorem ES.fr {F : Nat → Prop} {w w' : World} {v : Value} {l : List (ByteArray × Int)} (h : ES w v l) (hf : Fr F w w') (hn : 0 < l.length → ∀ k, v.ownBlock = some k → ¬ F k) : ES w' v l := by
  obtain ⟨A, c, rfl, hc, h⟩ := h
  refine ⟨A, c, rfl, hc, fun hp => ?_⟩
  obtain ⟨b, off, rfl, hlt, hcell⟩ := h hp
  have hb := hf.block b hlt (hn hp b rfl)
  exact ⟨b, off, rfl, Nat.lt_of_lt_of_le hlt hf.size, fun j hj => ⟨(World.cell?_of_block (a := ⟨b, off + j * 2, none⟩) hb).trans (hcell j hj).1, (World.cell?_of_block (a := ⟨b, off + j * 2 + 1, none⟩) hb).trans (hcell j hj).2⟩⟩
theorem ES.lt {w : World} {v : Value} {l : List (ByteArray × Int)} (h : ES w v l) (hn : 0 < l.length) : ∀ k, v.ownBlock = some k → k < w.heap.size := fun k hk => by
  obtain ⟨A, c, rfl, hc, h⟩ := h
  obtain ⟨b, off, rfl, hlt, _⟩ := h hn
  injection hk with hk
  exact hk ▸ hlt
theorem PrC.fr {F : Nat → Prop} {b off : Nat} {L : List (Int × Int)} {w w' : World} (h : PrC b off L w) (hf : Fr F w w') (hn : ¬ F b) : PrC b off L w' := by
  have hb := hf.block b h.1 hn
  exact ⟨Nat.lt_of_lt_of_le h.1 hf.size, fun j hj => ⟨(World.cell?_of_block (a := ⟨b, off + j * 2, none⟩) hb).trans (h.2 j hj).1, (World.cell?_of_block (a := ⟨b, off + j * 2 + 1, none⟩) hb).trans (h.2 j hj).2⟩⟩
theorem PrC.seven {b off : Nat} {L : List (Int × Int)} {w : World} (h : PrC b off L w) {g : Nat} (hne : b ≠ g) (l : EL) (v : Value) : PrC b off L (sevenL w g l v) :=
  ((((((h.set_ hne 0 _).set_ hne 1 _).set_ hne 2 _).set_ hne 3 _).set_ hne 4 _).set_ hne 5 _).set_ hne 6 _

/-- a row is right -/
structure RR (row : ByteArray) (col : Nat) : Prop where
  rok : rowB row.data.toList = true
  rend : Lib.hasSuffix row.data.toList [32] = false
  rlen : row.size ≤ 200
  rcol : col ≤ 200
theorem rr_empty : RR ⟨#[]⟩ 0 := ⟨rfl, rfl, by decide, by decide⟩
/-- the blocks that the feed may change -/
def FS (w : World) (B : Nat) (v : Value) : Nat → Prop := fun n => n = B + 1 ∨ some n = v.ownBlock ∨ w.heap.size ≤ n
structure Scr (w0 wr : World) (B b5 : Nat) (k : Nat) (l : EL) (bv v : Value) (x : SC) (row : ByteArray) (col : Nat) : Prop where
  kept : Kept l
  box : Blk wr B 37 (lnC l bv)
  es : ES wr bv l.before
  far : ∀ k, bv.ownBlock = some k → B + 1 < k
  scr : Blk wr (B + 1) 52 #[v, .int .i64 (x.2 : Int)]
  own : wr.ownsRow 0 5 1 v x.1.length (bytesV x.1)
  late : ∀ g, v.ownBlock = some g → b5 < g
  apart : 0 < l.before.length → ∀ k, bv.ownBlock = some k → some k ≠ v.ownBlock
  deep : B + 1 < b5
  deep5 : b5 < wr.heap.size
  right : RR row col
  shows : Sh x row.data.toList col
  short : x.1.length ≤ k * 1000000
  below : Below w0.heap.size w0 wr
theorem Scr.keep {w0 w w' : World} {B b5 k : Nat} {l : EL} {bv v : Value} {x : SC} {row : ByteArray} {col : Nat} (h : Scr w0 w B b5 k l bv v x row col) (hb : Below w.heap.size w w') : Scr w0 w' B b5 k l bv v x row col :=
  ⟨h.kept, h.box.below hb h.box.lt, h.es.keep hb, h.far, h.scr.below hb h.scr.lt, h.own.kept (row := none) ⟨hb.os, hb.tape, hb.output, hb.size, fun k hk _ => hb.block k hk⟩ (by cases v.ownBlock <;> simp), h.late, h.apart, h.deep, Nat.lt_of_lt_of_le h.deep5 hb.size, h.right, h.shows, h.short, h.below.trans (hb.mono h.below.size)⟩
theorem own_seven {w : World} {g B n : Nat} {e : TypeId} {v : Value} {xs : List Value} (h : w.ownsRow B e 1 v n xs) (hne : v.ownBlock ≠ some g) (l : EL) (u : Value) : (sevenL w g l u).ownsRow B e 1 v n xs :=
  ownsRow_setCell_other (ownsRow_setCell_other (ownsRow_setCell_other (ownsRow_setCell_other (ownsRow_setCell_other (ownsRow_setCell_other (ownsRow_setCell_other h hne _) hne _) hne _) hne _) hne _) hne _) hne _
theorem Scr.line {w0 w : World} {B b5 k : Nat} {l r : EL} {bv u v : Value} {x : SC} {row : ByteArray} {col : Nat} (h : Scr w0 w B b5 k l bv v x row col) (hB : w0.heap.size ≤ B) (hm : Kept r) (he : ES w u r.before) (hf : ∀ k, u.ownBlock = some k → B + 1 < k)
    (hap : 0 < r.before.length → ∀ k, u.ownBlock = some k → some k ≠ v.ownBlock) : Scr w0 (sevenL w B r u) B b5 k r u v x row col where
  kept := hm
  box := seven_same h.box
  es := seven_es he fun k hk => by have := hf k hk; omega
  far := hf
  scr := seven_far h.scr (by omega) _ _
  own := own_seven h.own (fun e => by have := h.late B e; have := h.deep; omega) _ _
  late := h.late
  apart := hap
  deep := h.deep
  deep5 := Nat.lt_of_lt_of_le h.deep5 (by simp [World.setCell])
  right := h.right
  shows := h.shows
  short := h.short
  below := below_seven2 h.below hB _ _ _ _ _ _ _
theorem Scr.sw {w0 w : World} {B b5 k : Nat} {l : EL} {bv v : Value} {x : SC} {row : ByteArray} {col : Nat} (h : Scr w0 w B b5 k l bv v x row col) : SW w (FS w B v) (B + 1) x :=
  ⟨.inl rfl, v, h.scr, h.own, fun _ hg => .inr (.inl hg.symm)⟩
theorem Scr.not5 {w0 w : World} {B b5 k : Nat} {l : EL} {bv v : Value} {x : SC} {row : ByteArray} {col : Nat} (h : Scr w0 w B b5 k l bv v x row col) : ¬ FS w B v b5 := by
  have h1 := h.deep
  have h2 := h.deep5
  rintro (e | e | e)
  · omega
  · have := h.late b5 e.symm; omega
  · omega
theorem Scr.fed {w0 w w' : World} {B b5 k : Nat} {l : EL} {bv v : Value} {x y : SC} {row tt : ByteArray} {col c : Nat} (h : Scr w0 w B b5 k l bv v x row col) (hB : w0.heap.size ≤ B) (hf : Fr (FS w B v) w w') (hs : SW w' (FS w B v) (B + 1) y)
    (hr : RR tt c) (hsh : Sh y tt.data.toList c) (hy : y.1.length ≤ (k + 1) * 1000000) : ∃ v', Scr w0 w' B b5 (k + 1) l bv v' y tt c := by
  obtain ⟨_, v', hk, ho, hF⟩ := hs
  have h1 := h.deep
  have h2 := h.deep5
  have hnB : ∀ n, n ≤ B → ¬ FS w B v n := fun n hn => by
    rintro (e | e | e)
    · omega
    · have := h.late n e.symm; omega
    · omega
  refine ⟨v', h.kept, (hf.block B h.box.lt (hnB B (Nat.le_refl _))).trans h.box, h.es.fr hf (fun hp j hj => ?_), h.far, hk, ho, fun g hg => ?_, fun hp j hj e => ?_, h1, Nat.lt_of_lt_of_le h2 hf.size, hr, hsh, hy, h.below.trans (hf.below (fun j hj => hnB j (by omega)) h.below.size)⟩
  · rintro (e | e | e)
    · have := h.far j hj; omega
    · exact h.apart hp j hj e
    · have := h.es.lt hp j hj; omega
  · rcases hF g hg with e | e | e
    · subst e
      exact absurd hg.symm (buf_ne ho hk (by decide))
    · exact h.late g e.symm
    · omega
  · rcases hF j e.symm with e1 | e1 | e1
    · have := h.far j hj; omega
    · exact h.apart hp j hj e1
    · have := h.es.lt hp j hj; omega

/-- what View tells of a line behind keys -/
theorem view_tells {p : ByteArray} {l : EL} {wide : Int} (hl : Kept l) (hp : rowB p.data.toList = true) (hp2 : p.size ≤ 200) (h3 : 2 ≤ wide) (h4 : wide ≤ 200) :
    ∃ (a c : Nat) (tt : ByteArray), l.at' = (a : Int) ∧ a ≤ l.text.size ∧ viewR p l.text a wide = .tuple #[.string tt, .int .i64 (c : Int), .int .i64 0] ∧ RR tt c ∧ (tt.size : Int) ≤ wide ∧ (c : Int) < wide := by
  have g0 := hl.good.at0
  have g1 := hl.good.at1
  obtain ⟨a, ha⟩ := Int.eq_ofNat_of_zero_le g0
  obtain ⟨f1, f2, f3, f4, f5⟩ := view_fits (p := p.data.toList) (t := l.text.data.toList) (a := a) (wide := wide) hp h3
  obtain ⟨c, hc⟩ := Int.eq_ofNat_of_zero_le f4
  have hv : viewV p.data.toList l.text.data.toList (a : Int) wide = (Lib.trimRightB (((rowK p.data.toList l.text.data.toList l.text.data.toList.length).drop (leftV p.data.toList l.text.data.toList a wide)).take wide.toNat) 32, (c : Int), 0) := by
    unfold viewV
    have hline : lineE ⟨l.text.data.toList.toArray⟩ (a : Int) = 0 := by
      have := hl.line
      rw [ha] at this
      exact this
    rw [if_neg (by rw [hline]; simp), if_neg (by rw [hp]; simp), if_neg (by rw [size_toList]; omega), if_neg (by omega)]
    rw [Int.toNat_natCast, hc]
  refine ⟨a, c, ⟨(Lib.trimRightB (((rowK p.data.toList l.text.data.toList l.text.data.toList.length).drop (leftV p.data.toList l.text.data.toList a wide)).take wide.toNat) 32).toArray⟩, ha, by omega, ?_, ⟨f1, f2, ?_, by omega⟩, ?_, by omega⟩
  · unfold viewR
    rw [hv]
  · rw [← size_toList]; show (Lib.trimRightB _ 32).length ≤ 200; omega
  · rw [← size_toList]; exact f3
/-- what Draw sends -/
theorem draw_tells {row tt : ByteArray} {col c : Nat} {x : SC} (hr : RR row col) (ht : RR tt c) (hs : Sh x row.data.toList col) :
    ∃ (s : ByteArray) (y : SC), drawR row col tt c = .tuple #[.string s, .int .i64 0] ∧ s.size ≤ 300 ∧ Feeds s.data.toList x y ∧ Sh y tt.data.toList c := by
  have h1 := draw_right (row := row.data.toList) (tt := tt.data.toList) (col := (col : Int)) (toCol := (c : Int)) hr.rok hr.rend ht.rok ht.rend (by rw [size_toList]; exact hr.rlen) (by rw [size_toList]; exact ht.rlen) (by omega) (by have := hr.rcol; omega) (by omega) (by have := ht.rcol; omega)
  obtain ⟨y, h2, h3⟩ := draw_feeds hs ((rowB_iff _).1 ht.rok) h1.1
  refine ⟨⟨(drawL row.data.toList col tt.data.toList c).1.toArray⟩, y, ?_, ?_, h2, h3⟩
  · unfold drawR
    rw [h1.1]
  · rw [← size_toList]; exact h1.2

end Go.Proofs.YtokmiommhfbkeaaGreatDoor
