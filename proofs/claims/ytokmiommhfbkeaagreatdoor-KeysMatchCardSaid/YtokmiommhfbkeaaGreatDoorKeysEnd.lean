/- KeysMatch: for all keys and every history, what the program's Press makes of a line, key by key, is what the reference's Press makes of it. No condition. -/
import Derived.Test.YtokmiommhfbkeaaGreatDoorRefU
import Derived.Test.YtokmiommhfbkeaaGreatDoorPressAny
import Derived.Test.YtokmiommhfbkeaaGreatDoorClose
import Derived.SliceStrings
import Derived.Deep.Slices
import Derived.OpenShut
import Derived.DataShut
import Derived.SizedLaws
import Derived.Test.YtokmiommhfbkeaaGreatDoorKeysAll
import Derived.Test.YtokmiommhfbkeaaGreatDoorCards
import Derived.Test.YtokmiommhfbkeaaGreatDoorTie
namespace Go.Proofs.YtokmiommhfbkeaaGreatDoor
open Go.RowKit Go.ChangeShapes Go.WideShapes Go.ChangeAt Go.Joins Go.Deep
open Go.ChangeMaps (open_string shut_string)

theorem pressL_short (l : EL) (h : List ByteArray) (kind byte : Int) (hl : l.before.length ≤ 5864062014805) : (pressL l h kind byte).1.before.length ≤ 9223372036854775807 := by
  have hn : ∀ m : EL, m.before.length ≤ 5864062014805 → (keyL m h kind byte).before.length ≤ 9223372036854775807 := fun m hm => by
    unfold keyL
    split
    · unfold undoL; split <;> simp; omega
      omega
    · have hp : ∀ (q : EL) (g : Int), q.before.length ≤ 5864062014805 → (placeL q h g).before.length ≤ 9223372036854775807 := fun q g hq => by
        unfold placeL; split
        · omega
        · simp
      split
      · exact hp _ _ hm
      · split
        · exact hp _ _ hm
        · unfold changeL noted; dsimp only; split
          · omega
          · simp; omega
  unfold pressL
  split
  · simp [emptyL]
  · split
    · simp [emptyL]
    · exact hn l hl

theorem two_boxes (w : World) (a b : Array Value) (s t : TypeId) : Blk ((w.alloc (.cells a s)).alloc (.cells b t)) w.heap.size s a ∧ Blk ((w.alloc (.cells a s)).alloc (.cells b t)) (w.heap.size + 1) t b :=
  ⟨(Below.heap_alloc _ _ _ (by simp)).trans (heap_alloc_new w _), blk_two w a b s t⟩

set_option maxRecDepth 100000 in
set_option maxHeartbeats 3200000 in
theorem line_walk (l : EL) (bv hv : Value) (h : List ByteArray) (kind byte : Int) (w : World) (hb0 : ES w bv l.before) (hh : SL w hv h) (hf : Fit l) (hn : h.length ≤ 9223372036854775807) (hs : ∀ s ∈ h, s.size ≤ maxLen) :
    Calls Tryz.prog 5 #[elV2 l bv, hv, .agg #[.int .i64 kind, .int .i64 byte]] w fun e w' => e = .returned (.bool true) ∧ Below w.heap.size w w' := by
  have hP := Lib.hid (fun W (hb : Below w.heap.size w W) => press_any l bv hv h kind byte W (hb0.keep hb) (hh.keep hb) hf hn hs)
  have hR := Lib.hid (fun W (hb : Below w.heap.size w W) => rPress_any l bv hv h kind byte W (hb0.keep hb) (hh.keep hb) hf hn hs)
  have hSL := Lib.hid (pressL_short l h kind byte hf.2.2.2.1)
  obtain ⟨A1, c1, rfl, _, _⟩ := hb0
  obtain ⟨A2, c2, rfl, _, _⟩ := hh
  clear hs
  have HB0 := Lib.hid (fun o1 o2 => (((Below.refl _ w).alloc (Nat.le_refl _) o1).alloc (by simp) o2))
  obtain ⟨text, a, killed, killing, before, place, begun⟩ := l
  dsimp only at *
  have hbx := two_boxes w #[.string text, .int .i64 a, .string killed, .bool killing, .slice A1 before.length c1, .int .i64 place, .string begun] #[.int .i64 kind, .int .i64 byte] 37 42
  obtain ⟨x1, x2⟩ := hbx
  have X1 := Lib.hid x1
  have X2 := Lib.hid x2
  clear x1 x2
  go_enter Tryz.func5, Tryz.ntmps5
  go_wp2_with fail
  refine (landed_any _).mono ?_
  rintro e w1 ⟨rfl, hb1⟩
  have K11 := Lib.hid (X1.out.below hb1 X1.out.lt)
  have K21 := Lib.hid (X2.out.below hb1 X2.out.lt)
  have HB1 := Lib.hid ((HB0.out _ _).trans (hb1.mono (HB0.out _ _).size))
  obtain ⟨d1, z1⟩ := K11.out.cell
  obtain ⟨d2, z2⟩ := K21.out.cell
  clear hb1 X1 X2
  go_wp2_with fail
  refine (hP.out _ HB1.out).mono ?_
  rintro e w2 ⟨bv2, rfl, hes2, _, hb2⟩
  have K12 := Lib.hid (K11.out.below hb2 K11.out.lt)
  have K22 := Lib.hid (K21.out.below hb2 K21.out.lt)
  have HB2 := Lib.hid (HB1.out.trans (hb2.mono HB1.out.size))
  have HE2 := Lib.hid hes2
  clear hb2 d1 z1 d2 z2
  generalize pressL ⟨text, a, killed, killing, before, place, begun⟩ h kind byte = r at *
  obtain ⟨⟨t', a', k', q', b', p', g'⟩, n'⟩ := r
  dsimp only at *
  obtain ⟨A3, c3, rfl, _, _⟩ := hes2
  obtain ⟨d1, z1⟩ := K12.out.cell
  obtain ⟨d2, z2⟩ := K22.out.cell
  have l2 : w.heap.size + 1 < w2.heap.size := K22.out.lt
  have l1 : w.heap.size < w2.heap.size := by omega
  go_wp2_with fail
  have K13 := Lib.hid (heap_alloc_new w2 (.cells #[.string t', .int .i64 a', .string k', .bool q', .slice A3 b'.length c3, .int .i64 p', .string g'] 37))
  have HB3 := Lib.hid (HB2.out.alloc HB2.out.size (.cells #[.string t', .int .i64 a', .string k', .bool q', .slice A3 b'.length c3, .int .i64 p', .string g'] 37))
  have HE3 := Lib.hid (HE2.out.keep ((Below.refl _ w2).alloc (Nat.le_refl _) (.cells #[.string t', .int .i64 a', .string k', .bool q', .slice A3 b'.length c3, .int .i64 p', .string g'] 37)))
  have HL3 := Lib.hid (show w2.heap.size < (w2.alloc (.cells #[.string t', .int .i64 a', .string k', .bool q', .slice A3 b'.length c3, .int .i64 p', .string g'] 37)).heap.size by simp)
  generalize (w2.alloc (.cells #[.string t', .int .i64 a', .string k', .bool q', .slice A3 b'.length c3, .int .i64 p', .string g'] 37)) = w3 at *
  clear d1 z1 d2 z2
  refine (hR.out _ HB3.out).mono ?_
  rintro e w4 ⟨bv4, rfl, hes4, _, hb4⟩
  have K14 := Lib.hid (Blk.below K13.out hb4 HL3.out)
  have HB4 := Lib.hid (HB3.out.trans (hb4.mono HB3.out.size))
  have HE4 := Lib.hid hes4
  have HE5 := Lib.hid (HE3.out.keep hb4)
  clear hb4
  obtain ⟨A4, c4, rfl, _, _⟩ := hes4
  obtain ⟨d1, z1⟩ := K14.out.cell
  have HL4 := Lib.hid K14.out.lt
  have l4 := K14.out.lt
  go_wp2_with fail
  refine (sameT_any ⟨t', a', k', q', b', p', g'⟩ _ _ _ (HE5.out.keep ((Below.refl _ w4).alloc (Nat.le_refl _) _)) (HE4.out.keep ((Below.refl _ w4).alloc (Nat.le_refl _) _)) hSL.out).mono ?_
  rintro e w5 ⟨rfl, hb5⟩
  have HB5 := Lib.hid ((HB4.out.alloc HB4.out.size _).trans (hb5.mono (by have := HB4.out.size; simp; omega)))
  clear hb5 d1 z1
  go_wp2
  go_ret
  exact ⟨rfl, HB5.out⟩

theorem cellsStr' : Tryz.prog.cellsOf 9 = 1 := by kernel_rfl
theorem cellsState : Tryz.prog.cellsOf 85 = 2 := by kernel_rfl
theorem bytesState : Tryz.prog.bytesOf 85 = 24 := by kernel_rfl
theorem cellsLine : Tryz.prog.cellsOf 37 = 7 := by kernel_rfl
theorem cellsKey : Tryz.prog.cellsOf 42 = 2 := by kernel_rfl

set_option maxRecDepth 100000 in
/-- a slice of texts that came in -/
theorem open_texts' {H : Type} {enc : TypeId × Value → H} {W : World} {r : Reach} {b0 : Nat} {v : Value} {d : DataW H} {p : List MemPlace}
    (hval : Value.okWide Tryz.prog W r b0 22 v) (h : DataW.Trod enc Tryz.prog W 0 (fun _ => true) true 22 v d p) :
    ∃ l : List ByteArray, SL W v l ∧ l.length ≤ 9223372036854775807 ∧ ∀ s ∈ l, s.size ≤ maxLen := by
  obtain ⟨a0, len, cap, rfl⟩ := okWide_slice Tryz.underlying22 hval
  obtain ⟨fuel, hf⟩ := h
  rcases open_strings Tryz.underlying22 Tryz.underlying9 cellsStr' hf with ⟨hcs, _⟩ | ⟨a, len', cap', ss, hcs, _, hl, hm, hz, _, hcell, hws⟩
  · have hcs' : Value.slice a0 len cap = .slice none 0 0 := by simpa [Value.cells] using hcs
    rw [hcs']
    exact ⟨[], ⟨none, 0, rfl, Nat.le_refl _, fun h => by simp at h⟩, by simp, by simp⟩
  · have hcs' : Value.slice a0 len cap = .slice (some a) len' cap' := by simpa [Value.cells] using hcs
    rw [hcs']
    simp only [if_true] at hz
    have hlen : (ss.take len').length = len' := by rw [List.length_take]; omega
    refine ⟨ss.take len', ⟨some a, cap', by rw [hlen], by omega, fun hp => ?_⟩, by unfold maxLen at hm; omega, fun s hs => hws s (List.mem_of_mem_take hs)⟩
    rw [hlen] at hp
    have h0 := hcell 0 (by omega)
    obtain ⟨b, off, spot⟩ := a
    have hspot : spot = none := by simpa [Addr.add] using World.cell?_spot h0
    subst hspot
    refine ⟨b, off, rfl, ?_, fun j hj => ?_⟩
    · rw [add_plain] at h0
      rcases Nat.lt_or_ge b W.heap.size with h | h
      · exact h
      · simp [World.cell?, Array.getElem?_eq_none h] at h0
    · rw [hlen] at hj
      have := hcell j (by omega)
      rw [add_plain] at this
      rw [this, List.getElem_take]
      simp [List.getElem?_eq_getElem (show j < ss.length by omega)]

theorem stateOne : oneCellFields Tryz.prog (match Tryz.prog.underlying 85 with | some (.struct fs) => fs | _ => #[]) = true := by kernel_rfl
theorem lineOne : oneCellFields Tryz.prog (match Tryz.prog.underlying 37 with | some (.struct fs) => fs | _ => #[]) = true := by kernel_rfl

set_option maxRecDepth 100000 in
/-- one state that came in -/
theorem open_state {H : Type} {enc : TypeId × Value → H} {W : World} {fuel : Nat} {cs : List Value} {x : DataW H × List MemPlace}
    (h : DataW.trod enc Tryz.prog W 0 (fun _ => true) true fuel 85 cs = some x) : ∃ (s : ByteArray) (n : Int), cs = [.string s, .int .i64 n] ∧ s.size ≤ maxLen := by
  obtain ⟨xs, m, _, _, hlen, hxl, hg⟩ := DataW.trod_struct Tryz.underlying85 h
  rw [cellsState] at hlen
  match cs, hlen with
  | [c0, c1], _ =>
    match xs, hxl with
    | [x0, x1], _ =>
      have g0 := hg 0 _ rfl
      have g1 := hg 1 _ rfl
      have g0' : DataW.trod enc Tryz.prog W 0 (fun _ => true) true m 9 [c0] = some x0 := by simpa [show Tryz.prog.cellsOf 9 = 1 by kernel_rfl] using g0
      have g1' : DataW.trod enc Tryz.prog W 0 (fun _ => true) true m 3 [c1] = some x1 := by simpa [show Tryz.prog.cellsOf 3 = 1 by kernel_rfl] using g1
      obtain ⟨s, hs, _, hsz⟩ := DataW.trod_string Tryz.underlying9 g0'
      obtain ⟨n, hn, _, _⟩ := DataW.trod_int Tryz.underlying3 g1'
      injection hs with hs
      injection hn with hn
      subst hs
      subst hn
      exact ⟨s, n, rfl, hsz⟩

set_option maxRecDepth 100000 in
/-- a slice of states that came in -/
theorem open_states {H : Type} {enc : TypeId × Value → H} {W : World} {fuel : Nat} {v : Value} {x : DataW H × List MemPlace}
    (hf : DataW.trod enc Tryz.prog W 0 (fun _ => true) true fuel 35 [v] = some x) :
    ∃ l : List (ByteArray × Int), ES W v l ∧ (∀ s ∈ l, s.1.size ≤ maxLen) ∧ (l = [] ∨ ∃ elems spare, x.1 = .slice elems spare ∧ l.length ≤ elems.length + spare.length) := by
  rcases Go.Deep.open_slice Tryz.underlying35 hf with ⟨hcs, _⟩ | ⟨a, len', cap', m, n, D, Pl, hcs, _, hl, hm, hmm, hx, hi⟩
  · injection hcs with hcs
    subst hcs
    exact ⟨[], ES.nil _, by simp, .inl rfl⟩
  · injection hcs with hcs
    subst hcs
    simp only [if_true] at hmm
    have key : ∀ i, ∃ s : ByteArray × Int, i < len' → W.cell? (a.add (i * 2)) = some (.string s.1) ∧ W.cell? (a.add (i * 2 + 1)) = some (.int .i64 s.2) ∧ s.1.size ≤ maxLen := fun i => by
      by_cases hil : i < len'
      · obtain ⟨cs', hc, ht⟩ := hi i (by omega)
        rw [cellsState] at hc
        obtain ⟨_, hcl, hat⟩ := World.cells?_some hc
        obtain ⟨s, k, rfl, hsz⟩ := open_state ht
        have h0 := hat 0 (by omega)
        have h1 := hat 1 (by omega)
        rw [Go.Deep.add_add] at h0 h1
        exact ⟨(s, k), fun _ => ⟨by simpa using h0, by simpa using h1, hsz⟩⟩
      · exact ⟨(⟨#[]⟩, 0), fun h => absurd h hil⟩
    obtain ⟨f, hfk⟩ := Classical.axiomOfChoice key
    have hlen : ((List.range len').map f).length = len' := by simp
    refine ⟨(List.range len').map f, ⟨some a, cap', by rw [hlen], by omega, fun hp => ?_⟩, fun s hs => ?_, .inr ⟨_, _, by rw [hx], by simp⟩⟩
    · rw [hlen] at hp
      obtain ⟨h0, _⟩ := hfk 0 hp
      obtain ⟨b, off, spot⟩ := a
      have hspot : spot = none := by simpa [Addr.add] using World.cell?_spot h0
      subst hspot
      refine ⟨b, off, rfl, ?_, fun j hj => ?_⟩
      · have := World.block_lt_of_cell? W _ h0
        rwa [add_plain] at this
      · rw [hlen] at hj
        obtain ⟨h1, h2, _⟩ := hfk j hj
        rw [add_plain] at h1 h2
        simp only [List.getElem_map, List.getElem_range]
        exact ⟨h1, by rw [← h2, Nat.add_assoc]⟩
    · obtain ⟨i, hi', rfl⟩ := List.mem_map.1 hs
      exact (hfk i (by simpa using hi')).2.2

set_option maxRecDepth 100000 in
/-- a line that came in -/
theorem open_line {H : Type} {enc : TypeId × Value → H} {W : World} {r : Reach} {b0 : Nat} {v : Value} {d : DataW H} {p : List MemPlace} {ts : List TypeId} {rest : List (DataW H)}
    (hval : Value.okWide Tryz.prog W r b0 37 v) (h : DataW.Trod enc Tryz.prog W 0 (fun _ => true) true 37 v d p) (hwt : (DataW.weightsEach Tryz.prog (37 :: ts) (d :: rest)).all (· ≤ reachBytes) = true) :
    ∃ (l : EL) (bv : Value), v = elV2 l bv ∧ ES W bv l.before ∧ Fit l := by
  obtain ⟨cs, rfl, hsz⟩ := okWide_struct Tryz.underlying37 hval
  obtain ⟨l⟩ := cs
  rw [cellsLine] at hsz
  match l, hsz with
  | [c0, c1, c2, c3, c4, c5, c6], _ =>
    obtain ⟨fuel, hf⟩ := h
    obtain ⟨xs, n, _, hx, _, hlen, hg⟩ := DataW.trod_struct Tryz.underlying37 hf
    match xs, hlen with
    | [y0, y1, y2, y3, y4, y5, y6], _ =>
      have k1 : Tryz.prog.cellsOf 9 = 1 := by kernel_rfl
      have k2 : Tryz.prog.cellsOf 3 = 1 := by kernel_rfl
      have k3 : Tryz.prog.cellsOf 4 = 1 := by kernel_rfl
      have k4 : Tryz.prog.cellsOf 35 = 1 := by kernel_rfl
      have g0 : DataW.trod enc Tryz.prog W 0 (fun _ => true) true n 9 [c0] = some y0 := by simpa [Value.cells, k1] using hg 0 _ rfl
      have g1 : DataW.trod enc Tryz.prog W 0 (fun _ => true) true n 3 [c1] = some y1 := by simpa [Value.cells, k2] using hg 1 _ rfl
      have g2 : DataW.trod enc Tryz.prog W 0 (fun _ => true) true n 9 [c2] = some y2 := by simpa [Value.cells, k1] using hg 2 _ rfl
      have g3 : DataW.trod enc Tryz.prog W 0 (fun _ => true) true n 4 [c3] = some y3 := by simpa [Value.cells, k3] using hg 3 _ rfl
      have g4 : DataW.trod enc Tryz.prog W 0 (fun _ => true) true n 35 [c4] = some y4 := by simpa [Value.cells, k4] using hg 4 _ rfl
      have g5 : DataW.trod enc Tryz.prog W 0 (fun _ => true) true n 3 [c5] = some y5 := by simpa [Value.cells, k2] using hg 5 _ rfl
      have g6 : DataW.trod enc Tryz.prog W 0 (fun _ => true) true n 9 [c6] = some y6 := by simpa [Value.cells, k1] using hg 6 _ rfl
      obtain ⟨t0, e0, _, s0⟩ := DataW.trod_string Tryz.underlying9 g0
      obtain ⟨t1, e1, _, _⟩ := DataW.trod_int Tryz.underlying3 g1
      obtain ⟨t2, e2, _, s2⟩ := DataW.trod_string Tryz.underlying9 g2
      obtain ⟨t3, e3, _⟩ := DataW.trod_bool Tryz.underlying4 g3
      obtain ⟨before, hes, hst, hln⟩ := open_states g4
      obtain ⟨t5, e5, _, _⟩ := DataW.trod_int Tryz.underlying3 g5
      obtain ⟨t6, e6, _, s6⟩ := DataW.trod_string Tryz.underlying9 g6
      injection e0 with e0
      injection e1 with e1
      injection e2 with e2
      injection e3 with e3
      injection e5 with e5
      injection e6 with e6
      subst e0 e1 e2 e3 e5 e6
      refine ⟨⟨t0, t1, t2, t3, before, t5, t6⟩, c4, rfl, hes, s0, s2, s6, ?_, hst⟩
      rcases hln with rfl | ⟨elems, spare, he, hle⟩
      · exact Nat.zero_le _
      · have hd : d = .agg [y0.1, y1.1, y2.1, y3.1, y4.1, y5.1, y6.1] := by injection hx
        have hw2 : (DataW.weightsEach Tryz.prog [9, 3, 9, 4, 35, 3, 9] [y0.1, y1.1, y2.1, y3.1, y4.1, y5.1, y6.1]).all (· ≤ reachBytes) = true := by
          rw [List.all_eq_true] at hwt ⊢
          intro z hz
          refine hwt z ?_
          rw [DataW.weightsEach, List.mem_append]
          left
          rw [hd, DataW.weights, Tryz.underlying37]
          exact hz
        have := sized_slice hw2 (j := 4) (t := 35) rfl (by rw [he]; rfl) Tryz.underlying35
        rw [bytesState] at this
        have hr : reachBytes = 140737488351232 := rfl
        show before.length ≤ 5864062014805
        omega

set_option maxRecDepth 100000 in
/-- a key that came in -/
theorem open_key {H : Type} {enc : TypeId × Value → H} {W : World} {r : Reach} {b0 : Nat} {v : Value} {d : DataW H} {p : List MemPlace}
    (hval : Value.okWide Tryz.prog W r b0 42 v) (h : DataW.Trod enc Tryz.prog W 0 (fun _ => true) true 42 v d p) : ∃ kind byte : Int, v = .agg #[.int .i64 kind, .int .i64 byte] := by
  obtain ⟨cs, rfl, hsz⟩ := okWide_struct Tryz.underlying42 hval
  obtain ⟨l⟩ := cs
  rw [cellsKey] at hsz
  match l, hsz with
  | [c0, c1], _ =>
    obtain ⟨fuel, hf⟩ := h
    obtain ⟨xs, n, _, hx, _, hlen, hg⟩ := DataW.trod_struct Tryz.underlying42 hf
    match xs, hlen with
    | [y0, y1], _ =>
      have k2 : Tryz.prog.cellsOf 3 = 1 := by kernel_rfl
      have g0 : DataW.trod enc Tryz.prog W 0 (fun _ => true) true n 3 [c0] = some y0 := by simpa [Value.cells, k2] using hg 0 _ rfl
      have g1 : DataW.trod enc Tryz.prog W 0 (fun _ => true) true n 3 [c1] = some y1 := by simpa [Value.cells, k2] using hg 1 _ rfl
      obtain ⟨t0, e0, _, _⟩ := DataW.trod_int Tryz.underlying3 g0
      obtain ⟨t1, e1, _, _⟩ := DataW.trod_int Tryz.underlying3 g1
      injection e0 with e0
      injection e1 with e1
      subst e0 e1
      exact ⟨t0, t1, rfl⟩

end Go.Proofs.YtokmiommhfbkeaaGreatDoor

namespace Go.Proofs.YtokmiommhfbkeaaGreatDoor.KeysMain
open Go.RowKit Go.ChangeShapes Go.WideShapes Go.ChangeAt Go.Joins

theorem cellsPair : Tryz.prog.cellsOf 38 = 2 := by kernel_rfl
theorem cellsInt : Tryz.prog.cellsOf 3 = 1 := by kernel_rfl

set_option maxRecDepth 100000 in
/-- a slice of pairs that came in -/
theorem open_keys {H : Type} {enc : TypeId × Value → H} {W : World} {r : Reach} {b0 : Nat} {v : Value} {d : DataW H} {p : List MemPlace}
    (hval : Value.okWide Tryz.prog W r b0 34 v) (h : DataW.Trod enc Tryz.prog W 0 (fun _ => true) true 34 v d p) :
    ∃ n, KS' W v n ∧ n ≤ 9223372036854775807 := by
  obtain ⟨a0, len, cap, rfl⟩ := okWide_slice Tryz.underlying34 hval
  obtain ⟨fuel, hf⟩ := h
  rcases Go.Deep.open_slice Tryz.underlying34 hf with ⟨hcs, _⟩ | ⟨a, len', cap', m, n, D, Pl, hcs, _, hl, hm, hmm, _, hi⟩
  · have hcs' : Value.slice a0 len cap = .slice none 0 0 := by simpa [Value.cells] using hcs
    rw [hcs']
    exact ⟨0, ⟨none, 0, rfl, Nat.le_refl _, fun h => by omega⟩, by omega⟩
  · have hcs' : Value.slice a0 len cap = .slice (some a) len' cap' := by simpa [Value.cells] using hcs
    rw [hcs']
    simp only [if_true] at hmm
    have key : ∀ i, i < len' → ∃ x y : Int, W.cell? (a.add (i * 2)) = some (.int .i64 x) ∧ W.cell? (a.add (i * 2 + 1)) = some (.int .i64 y) ∧ -9223372036854775808 ≤ y ∧ y ≤ 9223372036854775807 := fun i hil => by
      obtain ⟨cs', hc, ht⟩ := hi i (by omega)
      rw [cellsPair] at hc
      obtain ⟨_, hcl, hat⟩ := World.cells?_some hc
      obtain ⟨xs, m', _, _, _, hxl, hg⟩ := DataW.trod_array Tryz.underlying38 ht
      have g0 := hg 0 (by omega)
      have g1 := hg 1 (by omega)
      rw [cellsInt] at g0 g1
      match cs', hcl with
      | [c0, c1], _ =>
        match xs, hxl with
        | [x0, x1], _ =>
          have g0' : DataW.trod enc Tryz.prog W 0 (fun _ => true) true m' 3 [c0] = some x0 := by simpa using g0
          have g1' : DataW.trod enc Tryz.prog W 0 (fun _ => true) true m' 3 [c1] = some x1 := by simpa using g1
          obtain ⟨x, hx, _, _⟩ := DataW.trod_int Tryz.underlying3 g0'
          obtain ⟨y, hy, _, hw⟩ := DataW.trod_int Tryz.underlying3 g1'
          have h0 := hat 0 (by omega)
          have h1 := hat 1 (by omega)
          rw [Go.Deep.add_add] at h0 h1
          injection hx with hx
          injection hy with hy
          subst hx
          subst hy
          have hwf := (Lit.wf_int_iff .i64 y).1 hw
          have hmin : IntKind.i64.min = -9223372036854775808 := by decide
          have hmax : IntKind.i64.max = 9223372036854775807 := by decide
          rw [hmin, hmax] at hwf
          exact ⟨x, y, by simpa using h0, by simpa using h1, hwf.1, hwf.2⟩
    refine ⟨len', ⟨some a, cap', rfl, hl, fun hp => ?_⟩, by unfold maxLen at hm; omega⟩
    obtain ⟨x, y, h0, _⟩ := key 0 hp
    obtain ⟨b, off, spot⟩ := a
    have hspot : spot = none := by simpa [Addr.add] using World.cell?_spot h0
    subst hspot
    refine ⟨b, off, rfl, ?_, fun j hj => ?_⟩
    · have := World.block_lt_of_cell? W _ h0
      rwa [add_plain] at this
    · obtain ⟨x, y, h1, h2, h3, h4⟩ := key j hj
      rw [add_plain] at h1 h2
      exact ⟨x, y, h1, by rw [← h2, Nat.add_assoc], h3, h4⟩

theorem params_fine : (Tryz.f4.params.toList.all fun t => Tryz.prog.readableRec t && decide (t < Tryz.prog.types.size)) = true := by kernel_rfl

set_option maxRecDepth 100000 in
theorem contract (H : Type) (enc : TypeId × Value → H) (W : World) (base : Nat) (args : Array Value) (ds gs : List (DataW H)) (before : List MemPlace)
    (hval : ∀ (j : Nat) t v, Tryz.f4.params[j]? = some t → args[j]? = some v → Value.okWide Tryz.prog W .any base t v)
    (hW : DataW.Whole enc Tryz.prog Tryz.f4.params.toList Rows.keysMatchSpec.vars false W args.toList ds gs before) (_hL : laidMetH Tryz.prog Rows.keysMatchRow.laid W) :
    Calls Tryz.prog 4 args W fun e W' => ∃ v, e = .returned v ∧ Rows.keysMatchSpec.post enc Tryz.prog Tryz.f4 false true false false W args v W' := by
  have hW' := hW
  obtain ⟨p, q, hA0, hV, rfl, hfz, hnd⟩ := hW
  have hA : DataW.TrodAll enc Tryz.prog W 0 (fun _ => true) true Tryz.f4.params.toList args.toList ds p := hA0
  rw [Tryz.params4] at hA hval
  obtain ⟨v0, v1, d0, d1, p0, p1, rfl, rfl, rfl, h0, h1⟩ := trodAll_two hA
  obtain ⟨rfl, rfl⟩ := trodVars_none hV
  obtain ⟨n, hk, hn⟩ := open_keys (hval 0 34 v0 rfl rfl) h0
  obtain ⟨h, hsl, hn2, hs⟩ := open_texts' (hval 1 22 v1 rfl rfl) h1
  refine (keys_walk v0 v1 n h W hk hsl hn hn2 hs).mono fun e W' ⟨he, hb⟩ => ⟨_, he, ?_⟩
  exact law_post laidOut (params_ok params_fine) rfl (by kernel_rfl) Tryz.underlying4 hW' hb rfl

/-- the cells of a listed table -/
def tabOf (d : DataW Unit) : Array Value := match d with
  | .agg l => (l.flatMap fun
    | .lit (.int k n) => [Value.int k n]
    | .agg m => m.map fun | .lit (.int k n) => Value.int k n | _ => .bool false
    | _ => [.bool false]).toArray
  | _ => #[]
/-- a world for the witness: the settled one, the listed tables holding what their initialisers lay -/
noncomputable def laidWorld (os : Os) : World :=
  { World.holding Tryz.prog os ⟨#[], #[], []⟩ with heap := ((((World.holding Tryz.prog os ⟨#[], #[], []⟩).heap.modify 6 fun
      | .cells _ t frozen => .cells (tabOf Rows.laid_math_bits_deBruijn32tab) t frozen
      | o => o).modify 7 fun
      | .cells _ t frozen => .cells (tabOf Rows.laid_math_bits_deBruijn64tab) t frozen
      | o => o).modify 5 fun
      | .cells _ t frozen => .cells (tabOf Rows.laid_internal_strconv_uint64pow10) t frozen
      | o => o) }
def wargs : Array Value := #[.slice none 0 0, .slice none 0 0]
theorem laid_met (os : Os) : laidMet Tryz.prog Rows.keysMatchRow.laid ((laidWorld os).forCall (fun _ _ => 0) ⟨#[], wargs, []⟩).memory :=
  laidMet_of_run' 8 (by kernel_rfl) (by kernel_rfl)
theorem reads (os : Os) {H : Type} (enc : TypeId × Value → H) : ∃ places, DataW.whole enc Tryz.prog ((laidWorld os).forCall (fun _ _ => 0) ⟨#[], wargs, []⟩).memory Tryz.f4.params.toList Rows.keysMatchSpec.vars false wargs.toList 8 = some ([.nil, .nil], [], places) :=
  ⟨[], by kernel_rfl⟩

set_option maxRecDepth 100000 in
theorem lifted (os : Os) (started : os.Started) (H : Type) (enc : TypeId × Value → H) (F : Stop.Interp) :
    ReturnsInHanded {} Tryz.checked os 4 .any ((OpenSpec.ofChange Rows.keysMatchSpec).preRow enc Tryz.prog Tryz.f4 Rows.keysMatchRow.domain false Rows.keysMatchRow.laid) (((OpenSpec.ofChange Rows.keysMatchSpec).at F).post enc Tryz.prog Tryz.f4 false true false false) := by
  obtain ⟨places, hx⟩ := reads os enc
  refine returnsInHanded_of_row (C := Tryz.checked) (s := OpenSpec.ofChange Rows.keysMatchSpec) own started (by kernel_rfl) Tryz.func4
    (witness_row_at (enc := enc) (C := Tryz.checked) false (laidWorld os) wargs rfl (by kernel_rfl) (by kernel_rfl) (by kernel_rfl)
      (OpenSpec.preRow_of_cond 8 hx (by kernel_rfl) (fun k hk => by cases hk) (by kernel_rfl) (laid_met os))) ?_
  intro W base args ds gs before hval hW _ _ _ hL _ _
  exact contract H enc W base args ds gs before hval hW hL

theorem said : Rows.KeysMatchSaid :=
  OpenClaim.holds_of_cond 4 Tryz.f4 rfl rfl rfl rfl rfl rfl rfl ⟨rfl, rfl, rfl, rfl, rfl⟩ rfl rfl rfl rfl rfl (by kernel_rfl) Tryz.func4 (by kernel_rfl)
    (of_decide_eq_true (by kernel_rfl)) (by unfold Func.isWrapper; first | (rw [if_pos (by decide +kernel)]; kernel_rfl) | (rw [if_neg (by decide +kernel)]; exact ⟨rfl, rfl⟩))
    (fun os started H enc _ F => by rw [OpenClaim.pre_eq_preRow]; exact lifted os started H enc F)

theorem no_stand (l : List TypeId) (h : (l.all fun t => !(Tryz.pinned.checked.prog.wantsStandIn t)) = true) (t : TypeId) (ht : t ∈ l) : Tryz.pinned.checked.prog.wantsStandIn t = false := by
  simpa using List.all_eq_true.1 h t ht
theorem plain (f : FuncId) (fn : Func) (hf : Tryz.pinned.checked.prog.funcNamed "periwinkle/periwinklelaw2.KeysMatch" = some f) (hfn : Tryz.pinned.checked.prog.funcs[f]? = some fn) :
    true = Tryz.pinned.checked.prog.looks [] ∧ ∀ (j : Nat) t, fn.params[j]? = some t → Tryz.pinned.checked.prog.wantsStandIn t = false := by
  obtain rfl : f = 4 := Option.some.inj ((show Tryz.prog.funcNamed "periwinkle/periwinklelaw2.KeysMatch" = some 4 by kernel_rfl).symm.trans hf) |>.symm
  obtain rfl : fn = Tryz.f4 := (Option.some.inj (Tryz.func4.symm.trans hfn)).symm
  refine ⟨by kernel_rfl, fun j t ht => ?_⟩
  rw [Tryz.params4] at ht
  exact no_stand [34, 22] (by kernel_rfl) t (by simpa using Array.mem_of_getElem? ht)

theorem card : Rows.KeysMatchCardSaid :=
  Claim7.holds_tied_plain_at .later [] _ _ _ _ said (fun _ h => by cases h) (by kernel_rfl) (fun _ h => by cases h) keysMatch_row_tie rfl ⟨rfl, rfl⟩ (by kernel_rfl) rfl plain (by kernel_rfl)

end Go.Proofs.YtokmiommhfbkeaaGreatDoor.KeysMain
