/- ConstMatches, the law's dice with a budget: what a call of the generator leaves. (Begun; see NOTES.md.) -/
import Derived.Test.YtbgmjmooifjhjaaDoorConstA
namespace Go.Proofs.YtbgmjmooifjhjaaDoor
open Go.RowKit

/-- the dice lie in their box; at most k rolls were made, and k things taken -/
def DB (w : World) (b B k : Nat) : Prop := ∃ A n c i left, (b < B ∧ B ≤ w.heap.size ∧ (0 < n → ∀ a, A = some a → a.block < B)) ∧ DW w b A n c i left ∧ n ≤ 9223372036854775807 ∧ 0 ≤ i ∧ i ≤ (k : Int) ∧ -(k : Int) ≤ left ∧ left ≤ 20
theorem DB.more' {w : World} {b B k : Nat} (h : DB w b B k) {m : Nat} (hm : k ≤ m) : DB w b B m := by
  obtain ⟨A, n, c, i, left, h0, h1, h2, h3, h4, h5, h6⟩ := h
  exact ⟨A, n, c, i, left, h0, h1, h2, h3, by omega, by omega, h6⟩
theorem DB.lt {w : World} {b B k : Nat} (h : DB w b B k) : b < w.heap.size := by
  obtain ⟨A, n, c, i, left, _, h1, _⟩ := h
  exact (Array.getElem?_eq_some_iff.1 h1.box).1
theorem DB.base {w : World} {b B k : Nat} (h : DB w b B k) : b < B ∧ B ≤ w.heap.size := by
  obtain ⟨A, n, c, i, left, h0, _⟩ := h
  exact ⟨h0.1, h0.2.1⟩
theorem DB.set_ {w : World} {b B k g : Nat} (h : DB w b B k) (hg : B ≤ g) (i0 : Nat) (u : Value) : DB (w.setCell ⟨g, i0, none⟩ u) b B k := by
  obtain ⟨A, n, c, i, left, ⟨h0, h0b, h0c⟩, h1, h2⟩ := h
  refine ⟨A, n, c, i, left, ⟨h0, by simpa [World.setCell] using h0b, h0c⟩, ⟨(heap_setCell_other w ⟨g, i0, none⟩ b u (fun e => by have : b = g := e; omega)).trans h1.box, fun hn => ?_, h1.cap⟩, h2⟩
  obtain ⟨g', off, rfl, hl, hgb, hx⟩ := h1.raw hn
  have hlt := h0c hn _ rfl
  refine ⟨g', off, rfl, by simpa [World.setCell] using hl, hgb, fun j hj => ?_⟩
  obtain ⟨x, hx⟩ := hx j hj
  exact ⟨x, (World.cell?_of_block (a := ⟨g', off + j, none⟩) (heap_setCell_other w ⟨g, i0, none⟩ g' u (fun e => by have e2 : g' = g := e; have h3 : g' < B := hlt; omega))).trans hx⟩
theorem DB.keep {w w' : World} {b B k : Nat} (h : DB w b B k) (hb : Below w.heap.size w w') : DB w' b B k := by
  have hlt := h.lt
  obtain ⟨A, n, c, i, left, h0, h1, h2⟩ := h
  exact ⟨A, n, c, i, left, ⟨h0.1, Nat.le_trans h0.2.1 hb.size, h0.2.2⟩, h1.only (Only.of hb (Nat.le_refl _)) ((hb.block b hlt).trans h1.box), h2⟩
theorem Only.alloc {b : Nat} {a w : World} (h : Only b a w) (o : Obj) : Only b a (w.alloc o) := h.trans (Only.of ((Below.refl _ w).alloc (Nat.le_refl _) o) (Nat.le_refl _))
theorem Only.keep {b : Nat} {a w w' : World} (h : Only b a w) (hb : Below w.heap.size w w') : Only b a w' := h.trans (Only.of hb (Nat.le_refl _))

theorem roll_b (b B k : Nat) (m : Int) (w : World) (h : DB w b B k) (hk : k ≤ 4611686018427387904) (h1 : 1 ≤ m) (h2 : m ≤ 1000000) :
    Calls Tryd.prog 14 #[.pointer (some ⟨b, 0, none⟩), .int .i64 m] w fun e w' => ∃ r : Int, e = .returned (.int .i64 r) ∧ 0 ≤ r ∧ r < m ∧ DB w' b B (k + 1) ∧ Only b w w' := by
  obtain ⟨A, n, c, i, left, h0, hd, h3, h4, h5, h6, h7⟩ := h
  refine (roll_any b A n c i left m w hd h3 h4 (by omega) h1 h2).mono ?_
  rintro e w' ⟨r, i', rfl, hr1, hr2, hi1, hi2, hd', ho⟩
  exact ⟨r, rfl, hr1, hr2, ⟨A, n, c, i', left, ⟨h0.1, Nat.le_trans h0.2.1 ho.size, h0.2.2⟩, hd', h3, by omega, by omega, by omega, h7⟩, ho⟩
theorem more_b (b B k : Nat) (w : World) (h : DB w b B k) (hk : k ≤ 4611686018427387904) :
    Calls Tryd.prog 15 #[.pointer (some ⟨b, 0, none⟩)] w fun e w' => ∃ q : Bool, e = .returned (.bool q) ∧ DB w' b B (k + 1) ∧ Only b w w' := by
  obtain ⟨A, n, c, i, left, h0, hd, h3, h4, h5, h6, h7⟩ := h
  refine (more_any b A n c i left w hd (by omega) (by omega)).mono ?_
  rintro e w' ⟨rfl, hd', ho⟩
  exact ⟨_, rfl, ⟨A, n, c, i, left - 1, ⟨h0.1, Nat.le_trans h0.2.1 ho.size, h0.2.2⟩, hd', h3, h4, by omega, by omega, by omega⟩, ho⟩
/-- one of the texts of a new literal -/
theorem of_b (b B k : Nat) (L : List ByteArray) (cs : Array Value) (w : World) (h : DB w b B k) (hk : k ≤ 4611686018427387904) (h1 : 1 ≤ L.length) (h2 : L.length ≤ 1000) (hcs : cs = (L.map Value.string).toArray) :
    Calls Tryd.prog 17 #[.pointer (some ⟨b, 0, none⟩), .slice (some ⟨w.heap.size, 0, none⟩) L.length L.length] (w.alloc (.cells cs 9)) fun e w' => ∃ s : ByteArray, e = .returned (.string s) ∧ s ∈ L ∧ DB w' b B (k + 1) ∧ Only b w w' := by
  have hlt := h.lt
  have hk2 := h.keep ((Below.refl _ w).alloc (Nat.le_refl _) (.cells cs 9))
  obtain ⟨A, n, c, i, left, h0, hd, h3, h4, h5, h6, h7⟩ := hk2
  have hcell : ∀ j (hj : j < L.length), (w.alloc (.cells cs 9)).cell? ⟨w.heap.size, 0 + j, none⟩ = some (.string L[j]) := fun j hj => by
    have hh := heap_alloc_new w (.cells cs 9)
    rw [Nat.zero_add]
    unfold World.cell?
    dsimp only
    rw [hh]
    show cs[j]? = _
    subst hcs
    simp [hj]
  refine (of_any b A n c i left L w.heap.size 0 L.length _ hd h3 h4 (by omega) h1 h2 (by simp) (by omega) hcell).mono ?_
  rintro e w' ⟨s, i', rfl, hs, hi1, hi2, hd', ho⟩
  exact ⟨s, rfl, hs, ⟨A, n, c, i', left, ⟨h0.1, Nat.le_trans h0.2.1 ho.size, h0.2.2⟩, hd', h3, by omega, by omega, by omega, h7⟩, (Only.of ((Below.refl _ w).alloc (Nat.le_refl _) _) (Nat.le_refl _)).trans ho⟩
set_option maxHeartbeats 800000 in
theorem bare_any (s : ByteArray) (w : World) :
    Calls Tryd.prog 16 #[.string s] w fun e w' => e = .returned (.agg #[.int .i64 1, .string s, .slice none 0 0, .pointer none, .pointer none, .pointer none]) ∧ Below w.heap.size w w' := by
  go_enter Tryd.func16, Tryd.ntmps16
  go_wp2
  refine bodyPost_ret (v := .agg #[_, _, _, _, _, _]) (by simp [results, Tryd.results16, go_sem]) rfl ⟨rfl, ?_⟩
  exact (Below.refl _ w).alloc (Nat.le_refl _) _

end Go.Proofs.YtbgmjmooifjhjaaDoor
