/- TreeLoadMatches: the list of entries that came in. -/
import Derived.Test.YtclhdppepopgeaaGreatDoorTrEq
import Derived.OpenShut
import Derived.DataShut
import Derived.SizedLaws
import Derived.Deep.Slices
import Derived.Laws.IdiomArrays
import Derived.Test.YtclhdppepopgeaaGreatDoorClose
namespace Go.Proofs.YtclhdppepopgeaaGreatDoor
open Go.RowKit Go.ChangeShapes Go.WideShapes Go.ChangeAt Go.Joins

theorem cellsFe : Tryz.prog.cellsOf 33 = 8 := by kernel_rfl
theorem bytesFe : Tryz.prog.bytesOf 33 = 88 := by kernel_rfl
theorem cellsS1 : Tryz.prog.cellsOf 9 = 1 := by kernel_rfl
theorem cellsI1 : Tryz.prog.cellsOf 3 = 1 := by kernel_rfl
/-- an entry as data -/
def feD {H : Type} (e : FE) : DataW H := .agg [.lit (.string e.path.data.toList), .lit (.int .i64 e.kind), .lit (.int .i64 e.mode), .lit (.int .i64 e.user), .lit (.int .i64 e.group), .lit (.string e.text.data.toList), .lit (.int .i64 e.changed), .lit (.string e.same.data.toList)]
set_option maxRecDepth 100000 in
set_option maxHeartbeats 1600000 in
/-- one entry that came in -/
theorem open_fe {H : Type} {enc : TypeId × Value → H} {W : World} {fuel : Nat} {cs : List Value} {x : DataW H × List MemPlace}
    (h : DataW.trod enc Tryz.prog W 0 (fun _ => true) true fuel 33 cs = some x) : ∃ e : FE, cs = feC e ∧ x.1 = feD e ∧ e.path.size ≤ maxLen ∧ e.text.size ≤ maxLen := by
  obtain ⟨xs, m, _, hx, hlen, hxl, hg⟩ := DataW.trod_struct Tryz.underlying33 h
  rw [cellsFe] at hlen
  match cs, hlen with
  | [c0, c1, c2, c3, c4, c5, c6, c7], _ =>
    match xs, hxl with
    | [x0, x1, x2, x3, x4, x5, x6, x7], _ =>
      have g0 := hg 0 _ rfl
      have g1 := hg 1 _ rfl
      have g2 := hg 2 _ rfl
      have g3 := hg 3 _ rfl
      have g4 := hg 4 _ rfl
      have g5 := hg 5 _ rfl
      have g6 := hg 6 _ rfl
      have g7 := hg 7 _ rfl
      have g0' : DataW.trod enc Tryz.prog W 0 (fun _ => true) true m 9 [c0] = some x0 := by simpa [cellsS1] using g0
      have g1' : DataW.trod enc Tryz.prog W 0 (fun _ => true) true m 3 [c1] = some x1 := by simpa [cellsI1] using g1
      have g2' : DataW.trod enc Tryz.prog W 0 (fun _ => true) true m 3 [c2] = some x2 := by simpa [cellsI1] using g2
      have g3' : DataW.trod enc Tryz.prog W 0 (fun _ => true) true m 3 [c3] = some x3 := by simpa [cellsI1] using g3
      have g4' : DataW.trod enc Tryz.prog W 0 (fun _ => true) true m 3 [c4] = some x4 := by simpa [cellsI1] using g4
      have g5' : DataW.trod enc Tryz.prog W 0 (fun _ => true) true m 9 [c5] = some x5 := by simpa [cellsS1] using g5
      have g6' : DataW.trod enc Tryz.prog W 0 (fun _ => true) true m 3 [c6] = some x6 := by simpa [cellsI1] using g6
      have g7' : DataW.trod enc Tryz.prog W 0 (fun _ => true) true m 9 [c7] = some x7 := by simpa [cellsS1] using g7
      obtain ⟨t0, e0, rfl, z0⟩ := DataW.trod_string Tryz.underlying9 g0'
      obtain ⟨t1, e1, rfl, _⟩ := DataW.trod_int Tryz.underlying3 g1'
      obtain ⟨t2, e2, rfl, _⟩ := DataW.trod_int Tryz.underlying3 g2'
      obtain ⟨t3, e3, rfl, _⟩ := DataW.trod_int Tryz.underlying3 g3'
      obtain ⟨t4, e4, rfl, _⟩ := DataW.trod_int Tryz.underlying3 g4'
      obtain ⟨t5, e5, rfl, z5⟩ := DataW.trod_string Tryz.underlying9 g5'
      obtain ⟨t6, e6, rfl, _⟩ := DataW.trod_int Tryz.underlying3 g6'
      obtain ⟨t7, e7, rfl, _⟩ := DataW.trod_string Tryz.underlying9 g7'
      injection e0 with e0
      injection e1 with e1
      injection e2 with e2
      injection e3 with e3
      injection e4 with e4
      injection e5 with e5
      injection e6 with e6
      injection e7 with e7
      subst e0 e1 e2 e3 e4 e5 e6 e7
      exact ⟨⟨t0, t1, t2, t3, t4, t5, t6, t7⟩, rfl, by rw [hx]; rfl, z0, z5⟩

theorem weights_all {H : Type} {P : Program} {t : TypeId} : ∀ {l : List (DataW H)} {d : DataW H}, d ∈ l → ∀ n ∈ d.weights P t, n ∈ DataW.weightsAll P t l
  | [], _, h, _, _ => by cases h
  | x :: l, d, h, n, hn => by
    rw [DataW.weightsAll, List.mem_append]
    rcases List.mem_cons.1 h with h | h
    · exact .inl (h ▸ hn)
    · exact .inr (weights_all h n hn)
set_option maxRecDepth 100000 in
set_option maxHeartbeats 1600000 in
/-- a list of entries that came in -/
theorem open_entries {H : Type} {enc : TypeId × Value → H} {W : World} {r : Reach} {b0 : Nat} {v : Value} {d : DataW H} {p : List MemPlace}
    (hval : Value.okWide Tryz.prog W r b0 22 v) (h : DataW.Trod enc Tryz.prog W 0 (fun _ => true) true 22 v d p) (hwt : (DataW.weightsEach Tryz.prog [22] [d]).all (· ≤ reachBytes) = true) :
    ∃ l : List FE, FL W v l ∧ l.length ≤ 4611686018427387903 ∧ ∀ e ∈ l, e.path.size < 4611686018427387904 ∧ e.text.size ≤ maxLen := by
  obtain ⟨a0, len, cap, rfl⟩ := okWide_slice Tryz.underlying22 hval
  obtain ⟨fuel, hf⟩ := h
  rcases Go.Deep.open_slice Tryz.underlying22 hf with ⟨hcs, _⟩ | ⟨a, len', cap', m, n, D, Pl, hcs, _, hl, hm, hmm, hx, hi⟩
  · have hcs' : Value.slice a0 len cap = .slice none 0 0 := by simpa [Value.cells] using hcs
    rw [hcs']
    exact ⟨[], ⟨none, 0, rfl, Nat.le_refl _, fun h => absurd h (Nat.lt_irrefl _)⟩, by simp, by simp⟩
  · have hcs' : Value.slice a0 len cap = .slice (some a) len' cap' := by simpa [Value.cells] using hcs
    rw [hcs']
    simp only [if_true] at hmm
    injection hx with hx _
    have hrb : reachBytes = 140737488351232 := rfl
    have hln : len' ≤ 4611686018427387903 := by
      have h9 := sized_slice hwt (j := 0) (t := 22) rfl (by rw [hx]; rfl) Tryz.underlying22
      rw [bytesFe] at h9
      simp at h9
      omega
    have key : ∀ i, ∃ e : FE, i < len' → (∀ q x, (feC e)[q]? = some x → W.cell? (a.add (i * 8 + q)) = some x) ∧ e.path.size < 4611686018427387904 ∧ e.text.size ≤ maxLen := fun i => by
      by_cases hil : i < len'
      · obtain ⟨cs', hc, ht⟩ := hi i (by omega)
        rw [cellsFe] at hc
        obtain ⟨_, hcl, hat⟩ := World.cells?_some hc
        obtain ⟨e, rfl, hxd, hz0, hz5⟩ := open_fe ht
        refine ⟨e, fun _ => ⟨fun q x hq => ?_, ?_, hz5⟩⟩
        · have hq8 : q < 8 := by
            have := (List.getElem?_eq_some_iff.1 hq).1
            simpa [feC] using this
          have h0 := hat q hq8
          rw [Go.Deep.add_add] at h0
          rw [h0]
          exact hq
        · have hw : e.path.data.toList.length ∈ DataW.weightsEach Tryz.prog [22] [d] := by
            rw [DataW.weightsEach, List.mem_append]
            left
            rw [hx, DataW.weights, Tryz.underlying22]
            dsimp only
            rw [List.mem_cons, List.mem_append]
            right
            left
            refine weights_all (d := D i) (List.mem_map.2 ⟨i, List.mem_range.2 hil, rfl⟩) _ ?_
            have hDe : D i = feD e := hxd
            rw [hDe, feD, DataW.weights, Tryz.underlying33]
            dsimp only
            rw [show ∀ (f : Array Field), f.toList.map (·.type) = f.toList.map (·.type) from fun _ => rfl]
            simp [DataW.weightsEach, DataW.weights]
          have h8 := List.all_eq_true.1 hwt _ hw
          have h7 : e.path.data.toList.length ≤ reachBytes := of_decide_eq_true h8
          have h6 := size_toList e.path
          omega
      · exact ⟨⟨noneB, 0, 0, 0, 0, noneB, 0, noneB⟩, fun h => absurd h hil⟩
    obtain ⟨f, hfk⟩ := Classical.axiomOfChoice key
    have hlen : ((List.range len').map f).length = len' := by simp
    refine ⟨(List.range len').map f, ⟨some a, cap', by rw [hlen], by omega, fun hp => ?_⟩, by rw [hlen]; exact hln, fun e he => ?_⟩
    · rw [hlen] at hp
      obtain ⟨h0, _⟩ := hfk 0 hp
      obtain ⟨b, off, spot⟩ := a
      have h00 := h0 0 _ rfl
      have hspot : spot = none := by simpa [Addr.add] using World.cell?_spot h00
      subst hspot
      refine ⟨b, off, rfl, ?_, fun j hj => ?_⟩
      · have := World.block_lt_of_cell? W _ h00
        rwa [add_plain] at this
      · rw [hlen] at hj
        obtain ⟨h1, _⟩ := hfk j hj
        have k : ∀ q x, (feC (f j))[q]? = some x → W.cell? ⟨b, off + j * 8 + q, none⟩ = some x := fun q x hq => by
          have := h1 q x hq
          rwa [add_plain, ← Nat.add_assoc] at this
        simp only [List.getElem_map, List.getElem_range]
        exact ⟨k 0 _ rfl, k 1 _ rfl, k 2 _ rfl, k 3 _ rfl, k 4 _ rfl, k 5 _ rfl, k 6 _ rfl, k 7 _ rfl⟩
    · obtain ⟨i, hi', rfl⟩ := List.mem_map.1 he
      exact (hfk i (by simpa using hi')).2
end Go.Proofs.YtclhdppepopgeaaGreatDoor
