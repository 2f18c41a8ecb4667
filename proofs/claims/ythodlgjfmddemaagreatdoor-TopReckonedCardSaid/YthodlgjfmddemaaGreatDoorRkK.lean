/- Decimals read: the list of them. -/
import Derived.Test.YthodlgjfmddemaaGreatDoorRkJ
namespace Go.Proofs.YthodlgjfmddemaaGreatDoor.Rk
open Go.RowKit

set_option maxHeartbeats 1600000 in
theorem dwithin_any (n : Int) (w : World) :
    Calls Tryz.prog 26 #[.int .i64 n, .int .i64 0, .int .i64 40] w fun e w' => e = .returned (.bool (decide (0 ≤ n ∧ n ≤ 40))) ∧ w = w' := by
  by_cases h0 : n ≥ 0
  · by_cases h1 : n ≤ 40
    · have hd : decide (0 ≤ n ∧ n ≤ 40) = true := decide_eq_true ⟨h0, h1⟩
      rw [hd]
      clear hd
      go_enter Tryz.func26, Tryz.ntmps26
      go_wp2_with fail
      go_ret
      exact ⟨rfl, rfl⟩
    · have hd : decide (0 ≤ n ∧ n ≤ 40) = false := decide_eq_false fun h => h1 h.2
      rw [hd]
      clear hd
      go_enter Tryz.func26, Tryz.ntmps26
      go_wp2_with fail
      go_ret
      exact ⟨rfl, rfl⟩
  · have hd : decide (0 ≤ n ∧ n ≤ 40) = false := decide_eq_false fun h => h0 h.1
    rw [hd]
    clear hd
    go_enter Tryz.func26, Tryz.ntmps26
    go_wp2_with fail
    go_ret
    exact ⟨rfl, rfl⟩
theorem infoDec : (Tryz.prog.info? 48).map (fun i => (i.zero, i.size, i.bytes)) = some (some (.agg #[.bool false, .slice none 0 0, .int .i64 0]), 3, 40) := by kernel_rfl
def vcells (vs : List (Dec × Value)) : List Value := vs.flatMap fun p => [.bool p.1.below, p.2, .int .i64 (p.1.scale : Int)]
theorem vcells_at : ∀ {vs : List (Dec × Value)} {j : Nat} {p : Dec × Value}, vs[j]? = some p → (vcells vs)[3 * j]? = some (.bool p.1.below) ∧ (vcells vs)[3 * j + 1]? = some p.2 ∧ (vcells vs)[3 * j + 2]? = some (.int .i64 (p.1.scale : Int))
  | [], _, _, h => by cases h
  | q :: vs, 0, p, h => by
    injection h with h
    subst h
    exact ⟨rfl, rfl, rfl⟩
  | q :: vs, j + 1, p, h => by
    have ih := vcells_at (vs := vs) (j := j) (p := p) h
    have e : vcells (q :: vs) = [.bool q.1.below, q.2, .int .i64 (q.1.scale : Int)] ++ vcells vs := by simp [vcells]
    rw [e]
    rw [show 3 * (j + 1) = 3 * j + 3 by omega]
    exact ih
/-- the limbs do not lie in the row -/
def Sep (vo nv : Value) (n : Nat) : Prop := 0 < nl n → ∀ ad m c, nv = .slice (some ad) m c → vo.ownBlock ≠ some ad.block
/-- a list of decimals -/
structure DL (w0 : World) (vo : Value) (vs : List (Dec × Value)) (w : World) : Prop where
  own : w.ownsRow w0.heap.size 48 3 vo vs.length (vcells vs)
  below : Below w0.heap.size w0 w
  vals : ∀ p ∈ vs, NL w p.2 p.1.n ∧ Sep vo p.2 p.1.n
theorem DL.start (w : World) : DL w (.slice none 0 0) [] w := ⟨World.ownsRow_nil _ _ _ _, Below.refl _ _, fun p h => by cases h⟩
theorem DL.keep {w0 w w' : World} {vo : Value} {vs : List (Dec × Value)} (h : DL w0 vo vs w) (hb : Below w.heap.size w w') : DL w0 vo vs w' :=
  ⟨h.own.kept (row := none) ⟨hb.os, hb.tape, hb.output, hb.size, fun k hk _ => hb.block k hk⟩ (by cases vo.ownBlock <;> simp), h.below.trans (hb.mono h.below.size), fun p hp => ⟨(h.vals p hp).1.keep hb, (h.vals p hp).2⟩⟩
theorem NL.grown {w w' : World} {v : Value} {n : Nat} {row : Option Nat} (h : NL w v n) (hg : w.grownBy w' row) (hs : 0 < nl n → ∀ ad m c, v = .slice (some ad) m c → row ≠ some ad.block) : NL w' v n := by
  obtain ⟨A, c, rfl, hc, hA, h⟩ := h
  refine ⟨A, c, rfl, hc, hA, fun h0 => ?_⟩
  obtain ⟨b, off, rfl, hb, hcell⟩ := h h0
  exact ⟨b, off, rfl, Nat.lt_of_lt_of_le hb hg.size, fun j hj => (World.cell?_of_block (a := ⟨b, off + j, none⟩) (hg.block b hb fun e => hs h0 _ _ _ rfl e.symm)).trans (hcell j hj)⟩
theorem NL.lt {w : World} {v : Value} {n : Nat} (h : NL w v n) (h0 : 0 < nl n) {ad : Addr} {m c : Nat} (hv : v = .slice (some ad) m c) : ad.block < w.heap.size := by
  obtain ⟨A, c', rfl, _, _, h⟩ := h
  obtain ⟨b, off, rfl, hb, _⟩ := h h0
  injection hv with e1 _ _
  injection e1 with e1
  subst e1
  exact hb
theorem DL.append {w0 w w' : World} {vo : Value} {vs : List (Dec × Value)} {d : Dec} {nv : Value} {g cap : Nat} (h : DL w0 vo vs w) (hn : NL w nv d.n) (hs : Sep vo nv d.n)
    (hown : w'.ownsRow w0.heap.size 48 3 (.slice (some ⟨g, 0, none⟩) (vs.length + 1) cap) (vs.length + 1) (vcells vs ++ [.bool d.below, nv, .int .i64 (d.scale : Int)])) (hg : w.grownBy w' vo.ownBlock) (hat : vo.ownBlock = some g ∨ g = w.heap.size) :
    DL w0 (.slice (some ⟨g, 0, none⟩) (vs.length + 1) cap) (vs ++ [(d, nv)]) w' := by
  have hall : ∀ p ∈ vs ++ [(d, nv)], NL w p.2 p.1.n ∧ Sep vo p.2 p.1.n := fun p hp => by
    rcases List.mem_append.1 hp with hp | hp
    · exact h.vals p hp
    · rw [List.mem_singleton] at hp
      subst hp
      exact ⟨hn, hs⟩
  refine ⟨?_, h.below.grown hg h.below.size (fun g hg => (h.own.lt g hg).1), fun p hp => ⟨(hall p hp).1.grown hg (hall p hp).2, fun h0 ad m c e => ?_⟩⟩
  · rw [List.length_append]
    show w'.ownsRow _ _ _ _ (vs.length + 1) _
    rw [show vcells (vs ++ [(d, nv)]) = vcells vs ++ [.bool d.below, nv, .int .i64 (d.scale : Int)] by simp [vcells]]
    exact hown
  · intro e2
    have hgb : g = ad.block := by simpa [Value.ownBlock] using e2
    rcases hat with ha | ha
    · exact (hall p hp).2 h0 ad m c e (by rw [ha, hgb])
    · have := (hall p hp).1.lt h0 e
      omega
theorem DL.form {w0 w : World} {vo : Value} {vs : List (Dec × Value)} (h : DL w0 vo vs w) : ∃ A c, vo = .slice A vs.length c := by
  rcases h.own.2 with ⟨rfl, h0⟩ | ⟨g, c, cur, rfl, _⟩
  · exact ⟨none, 0, by rw [h0]⟩
  · exact ⟨_, c, rfl⟩
theorem DL.at {w0 w : World} {vo : Value} {vs : List (Dec × Value)} (h : DL w0 vo vs w) {j : Nat} {p : Dec × Value} (hj : vs[j]? = some p) :
    ∃ g c, vo = .slice (some ⟨g, 0, none⟩) vs.length c ∧ vs.length ≤ c ∧ w.cell? ⟨g, 3 * j, none⟩ = some (.bool p.1.below) ∧ w.cell? ⟨g, 3 * j + 1, none⟩ = some p.2 ∧ w.cell? ⟨g, 3 * j + 2, none⟩ = some (.int .i64 (p.1.scale : Int)) ∧ g < w.heap.size := by
  rcases h.own.2 with ⟨_, h0⟩ | ⟨g, c, cur, hv, _, _, hcap, _⟩
  · rw [List.length_eq_zero_iff.1 h0] at hj
    cases hj
  · have hg : vo.ownBlock = some g := by rw [hv]; rfl
    have hc := h.own.cells hg
    obtain ⟨a, b, c'⟩ := vcells_at hj
    have xa := hc _ _ a
    have xb := hc _ _ b
    have xc := hc _ _ c'
    rw [WideShapes.add_plain, Nat.zero_add] at xa xb xc
    exact ⟨g, c, hv, hcap, xa, xb, xc, (h.own.lt g hg).2⟩
end Go.Proofs.YthodlgjfmddemaaGreatDoor.Rk
