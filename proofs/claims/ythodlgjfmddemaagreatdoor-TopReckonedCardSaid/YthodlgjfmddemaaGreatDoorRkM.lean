/- Decimals told; the read ones. -/
import Derived.Test.YthodlgjfmddemaaGreatDoorRkL
namespace Go.Proofs.YthodlgjfmddemaaGreatDoor.Rk
open Go.RowKit

def dNone : Dec := ⟨false, 0, 0⟩
def decD (a : List UInt8) : Dec := (decOf a).getD dNone
def told (d : Dec) : List UInt8 × Int := if 200 < d.size then ([], 2) else (d.text, 0)
def ToldP (r : List UInt8 × Int) (w : World) (e : Ending) (w' : World) : Prop := e = .returned (.tuple #[.string (toB r.1), .int .i64 r.2]) ∧ Below w.heap.size w w'
theorem err_zero {ts : List (List UInt8)} {sc : Int} (h : decErr ts sc = 0) : (∀ t ∈ ts, ∃ d, decOf t = some d ∧ d.size ≤ 200) ∧ 0 ≤ sc ∧ sc ≤ 40 := by
  unfold decErr at h
  split at h
  · cases h
  rename_i h1
  split at h
  · cases h
  rename_i h2
  split at h
  · rename_i h3
    refine ⟨fun t ht => ?_, h3⟩
    cases hd : decOf t with
    | none => exact absurd ⟨t, ht, hd⟩ h1
    | some d => exact ⟨d, rfl, Nat.le_of_not_lt fun hs => h2 ⟨t, ht, d, hd, hs⟩⟩
  · cases h
theorem err_ok {ts : List (List UInt8)} {sc : Int} (h : ∀ t ∈ ts, ∃ d, decOf t = some d ∧ d.size ≤ 200) (h0 : 0 ≤ sc) (h1 : sc ≤ 40) : decErr ts sc = 0 := by
  unfold decErr
  rw [if_neg, if_neg, if_pos ⟨h0, h1⟩]
  · rintro ⟨t, ht, d, hd, hs⟩
    obtain ⟨d', he, hl⟩ := h t ht
    rw [hd] at he
    injection he with he
    rw [he] at hs
    omega
  · rintro ⟨t, ht, hn⟩
    obtain ⟨d', he, _⟩ := h t ht
    rw [hn] at he
    cases he
theorem small_nl {d : Dec} (h : d.size ≤ 200) : nl d.n ≤ 23 ∧ d.scale ≤ 199 ∧ (digs d.n).length ≤ 200 := by
  unfold Dec.size at h
  exact ⟨nl_digs (by omega), by omega, by omega⟩
/-- a list of one decimal, or of two, that are read -/
structure One (w : World) (g : Nat) (vo : Value) (d1 : Dec) (n1 : Value) : Prop where
  x0 : w.cell? ⟨g, 0, none⟩ = some (.bool d1.below)
  x1 : w.cell? ⟨g, 1, none⟩ = some n1
  x2 : w.cell? ⟨g, 2, none⟩ = some (.int .i64 (d1.scale : Int))
  nn : NL w n1 d1.n
theorem read_one {w0 w : World} {vo : Value} {a : List UInt8} {vs : List (Dec × Value)} (h : [a].map decOf = vs.map (fun p => some p.1)) (hd : DL w0 vo vs w) :
    ∃ g c d1 n1, vo = .slice (some ⟨g, 0, none⟩) 1 c ∧ 1 ≤ c ∧ decOf a = some d1 ∧ One w g vo d1 n1 ∧ g < w.heap.size := by
  rcases vs with _ | ⟨⟨d1, n1⟩, _ | ⟨q, vs⟩⟩
  · simp at h
  · injection h with h1 _
    obtain ⟨g, c, hv, hc, x0, x1, x2, hg⟩ := hd.at (j := 0) (p := (d1, n1)) rfl
    exact ⟨g, c, d1, n1, hv, hc, h1, ⟨x0, x1, x2, (hd.vals (d1, n1) (by simp)).1⟩, hg⟩
  · simp at h
theorem read_two {w0 w : World} {vo : Value} {a b : List UInt8} {vs : List (Dec × Value)} (h : [a, b].map decOf = vs.map (fun p => some p.1)) (hd : DL w0 vo vs w) :
    ∃ g c d1 n1 d2 n2, vo = .slice (some ⟨g, 0, none⟩) 2 c ∧ 2 ≤ c ∧ decOf a = some d1 ∧ decOf b = some d2 ∧ One w g vo d1 n1 ∧ g < w.heap.size ∧ w.cell? ⟨g, 3, none⟩ = some (.bool d2.below) ∧ w.cell? ⟨g, 4, none⟩ = some n2 ∧ w.cell? ⟨g, 5, none⟩ = some (.int .i64 (d2.scale : Int)) ∧ NL w n2 d2.n := by
  rcases vs with _ | ⟨⟨d1, n1⟩, _ | ⟨⟨d2, n2⟩, _ | ⟨q, vs⟩⟩⟩
  · simp at h
  · simp at h
  · injection h with h1 h2
    injection h2 with h2 _
    obtain ⟨g, c, hv, hc, x0, x1, x2, hg⟩ := hd.at (j := 0) (p := (d1, n1)) rfl
    obtain ⟨g', c', hv', _, y0, y1, y2, _⟩ := hd.at (j := 1) (p := (d2, n2)) rfl
    rw [hv] at hv'
    injection hv' with e1 _ _
    injection e1 with e1
    injection e1 with e1
    subst e1
    exact ⟨g, c, d1, n1, d2, n2, hv, hc, h1, h2, ⟨x0, x1, x2, (hd.vals (d1, n1) (by simp)).1⟩, hg, y0, y1, y2, (hd.vals (d2, n2) (by simp)).1⟩
  · simp at h
theorem SL.two (w : World) (a b : List UInt8) (t : TypeId) : SL (w.alloc (.cells #[.string (toB a), .string (toB b)] t)) (.slice (some ⟨w.heap.size, 0, none⟩) 2 2) [a, b] := by
  have h := heap_alloc_new w (.cells #[.string (toB a), .string (toB b)] t)
  refine ⟨w.heap.size, 2, rfl, Nat.le_refl _, by simp, fun i x hx => ?_⟩
  rw [cell_of_row _ _ i _ _ (0, 0) h]
  match i, hx with
  | 0, hx => injection hx with hx; subst hx; rfl
  | 1, hx => injection hx with hx; subst hx; rfl
theorem SL.one (w : World) (a : List UInt8) (t : TypeId) : SL (w.alloc (.cells #[.string (toB a)] t)) (.slice (some ⟨w.heap.size, 0, none⟩) 1 1) [a] := by
  have h := heap_alloc_new w (.cells #[.string (toB a)] t)
  refine ⟨w.heap.size, 1, rfl, Nat.le_refl _, by simp, fun i x hx => ?_⟩
  rw [cell_of_row _ _ i _ _ (0, 0) h]
  match i, hx with
  | 0, hx => injection hx with hx; subst hx; rfl
set_option maxRecDepth 100000 in
set_option maxHeartbeats 1600000 in
theorem told_any (v : Value) (d : Dec) (w : World) (hv : DecV w v d) (hp : Pow w) (hn : nl d.n ≤ 10000) (hs : d.scale ≤ 10000) :
    Calls Tryz.prog 16 #[v] w (ToldP (told d) w) := by
  obtain ⟨nv, rfl, hnv⟩ := hv
  obtain ⟨A, c, rfl, _, _⟩ := RL.form hnv
  have hdl := digs_nl hn
  obtain ⟨w1, hw1⟩ : ∃ w1, w1 = w.alloc (.cells #[.bool d.below, .slice A (nl d.n) c, .int .i64 (d.scale : Int)] 48) := ⟨_, rfl⟩
  have hb1 : Below w.heap.size w w1 := by rw [hw1]; exact box1 _ _ _ _
  have h3 : B3 w1 w.heap.size (.bool d.below) (.slice A (nl d.n) c) (.int .i64 (d.scale : Int)) := by rw [hw1]; exact B3.new w _ _ _
  obtain ⟨g, hg⟩ : ∃ g, g = w.heap.size := ⟨_, rfl⟩
  rw [← hg] at h3
  have HSz := Lib.hid (dsize_any _ d w1 ⟨_, rfl, hnv.keep hb1⟩ (hp.keep hb1) (by omega) (by omega) (by omega))
  have HTx := Lib.hid (fun W (hb : Below w1.heap.size w1 W) (h : d.size ≤ 200) => dtext_any _ d W ⟨_, rfl, (hnv.keep hb1).keep hb⟩ ((hp.keep hb1).keep hb) (by omega))
  have HF := Lib.hid (fun W (hb : Below w1.heap.size w1 W) => (show 200 < d.size → ToldP (told d) w (.returned (.tuple #[.string ⟨#[]⟩, .int .i64 2])) W from fun h => by
    have ht : told d = ([], 2) := by unfold told; rw [if_pos h]
    rw [ht]
    exact ⟨rfl, hb1.trans (hb.mono (Below.size hb1))⟩))
  have HG := Lib.hid (fun W (hb : Below w1.heap.size w1 W) => (show ¬ 200 < d.size → ToldP (told d) w (.returned (.tuple #[.string (toB d.text), .int .i64 0])) W from fun h => by
    have ht : told d = (d.text, 0) := by unfold told; rw [if_neg h]
    rw [ht]
    exact ⟨rfl, hb1.trans (hb.mono (Below.size hb1))⟩))
  have HW1 := Lib.hid hw1
  have HB3 := Lib.hid h3
  have HGg := Lib.hid hg
  generalize ToldP (told d) w = Q at *
  generalize d.text = T at *
  clear hw1 hb1 h3 hg hnv hp hdl
  go_enter Tryz.func16, Tryz.ntmps16
  go_upto_region 1 with fail
  rw [← HW1.out, ← HGg.out]
  obtain ⟨k0, k1, k2, kf⟩ := HB3.out.cells
  go_wp2_with fail
  refine HSz.out.mono ?_
  rintro e w2 ⟨rfl, hb2⟩
  have HB2 := Lib.hid hb2
  obtain ⟨q, hq⟩ : ∃ q, q = d.size := ⟨_, rfl⟩
  rw [← hq]
  have HQq := Lib.hid hq
  clear hq k0 k1 k2 kf hb2
  by_cases hbig : 200 < q
  · have hbz : (q : Int) > 200 := by omega
    have HE := Lib.hid (HF.out w2 HB2.out (by rw [← HQq.out]; exact hbig))
    clear hbig
    go_wp2_with fail
    exact HE.out
  · have hbz : ¬ (q : Int) > 200 := by omega
    have hb2 := HB2.out
    obtain ⟨k0, k1, k2, kf⟩ := (HB3.out.below HB2.out).cells
    have HBig := Lib.hid hbig
    clear hbig hb2
    go_wp2_with fail
    refine (HTx.out _ HB2.out (by rw [← HQq.out]; exact Nat.le_of_not_lt HBig.out)).mono ?_
    rintro e w3 ⟨rfl, hb3⟩
    have HE := Lib.hid (HG.out w3 (HB2.out.trans (hb3.mono (Below.size HB2.out))) (by rw [← HQq.out]; exact HBig.out))
    clear hb3 k0 k1 k2 kf
    go_wp2_with fail
    exact HE.out
end Go.Proofs.YthodlgjfmddemaaGreatDoor.Rk
