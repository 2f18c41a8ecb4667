/- TopJoined: slices.Grow and Concat of texts. (Turned from TmG.) -/
import Derived.Test.YtppnhdcnjbjibaaGreatDoorTjOwn
import Derived.Lib.AppendZeros
import Derived.Laws.AppendOwnNone
namespace Go.Proofs.YtppnhdcnjbjibaaGreatDoor
open Go.RowKit

/-- a slice of texts -/
structure PV where
  b : Nat
  off : Nat
  c : Nat
  l : List ByteArray
def PV.val (s : PV) : Value := .slice (some ⟨s.b, s.off, none⟩) s.l.length s.c
structure PV.ok (s : PV) (w : World) : Prop where
  lt : s.b < w.heap.size
  cap : s.l.length ≤ s.c
  cell : ∀ j (h : j < s.l.length), w.cell? ⟨s.b, s.off + j, none⟩ = some (.string s.l[j])
theorem PV.ok.keep {s : PV} {w w' : World} (h : s.ok w) (hb : Below w.heap.size w w') : s.ok w' :=
  ⟨Nat.lt_of_lt_of_le h.lt hb.size, h.cap, fun j hj => (hb.cell (p := ⟨s.b, s.off + j, none⟩) h.lt).trans (h.cell j hj)⟩
/-- their texts -/
def PV.all (V : List PV) : List ByteArray := V.flatMap (·.l)
theorem PV.all_take (V : List PV) (k : Nat) (h : k < V.length) : PV.all (V.take (k + 1)) = PV.all (V.take k) ++ V[k].l := by
  unfold PV.all
  rw [List.take_succ_eq_append_getElem h, List.flatMap_append]
  simp
theorem PV.all_le (V : List PV) : ∀ k, (PV.all (V.take k)).length ≤ (PV.all V).length := fun k => by
  have : PV.all V = PV.all (V.take k) ++ PV.all (V.drop k) := by
    unfold PV.all
    rw [← List.flatMap_append, List.take_append_drop]
  rw [this, List.length_append]
  omega

set_option maxRecDepth 100000 in
set_option maxHeartbeats 1600000 in
theorem grow_nil (n : Nat) (h0 : 0 < n) (hn : n ≤ 40000) (w : World) :
    Calls Tryz.prog 92 #[.slice none 0 0, .int .i64 (n : Int)] w fun e w' => ∃ v, e = .returned v ∧ w'.ownsRow w.heap.size 9 1 v 0 [] ∧ Below w.heap.size w w' := by
  obtain ⟨i0, hi, hz0, hz1, hz2⟩ := info_parts strInfo
  have hrz : ∀ ty, (Builtin.append_ #[26, 3] ty #[.slice none 0 0, .int .i64 (n : Int)]).run Tryz.prog w = .ok (.slice (some ⟨w.heap.size, 0, none⟩) n (grownCap w n 0 9)) (w.drew.alloc (.cells (Builtin.zeroCells (Value.string ByteArray.empty).cells n ++ Builtin.zeroCells (Value.string ByteArray.empty).cells (grownCap w n 0 9 - n)) 9)) := fun ty =>
    Lib.run_append_nil_zeros w 26 3 ty 9 i0 _ .i64 .i64 Tryz.underlying26 Tryz.underlying3 hi hz0 n h0 (by omega) (by omega) (by rw [hz2]; omega)
  have hGn : n ≤ grownCap w n 0 9 := grownCap_ge w _ _ _
  have hG63 := grownCap_le_maxLen w n 0 9 (by unfold maxLen; omega)
  obtain ⟨G, hG⟩ : ∃ G, G = grownCap w n 0 9 := ⟨_, rfl⟩
  rw [← hG] at hrz hGn hG63
  have HOwn := Lib.hid (World.ownsRow_made (base := w.heap.size) (e := 9) (size := 1) w.drew (Builtin.zeroCells (Value.string ByteArray.empty).cells n ++ Builtin.zeroCells (Value.string ByteArray.empty).cells (G - n)) G (Nat.le_refl _) hG63 (by
    rw [Array.size_append, size_zeroCells, size_zeroCells]
    show n * 1 + (G - n) * 1 = G * 1
    omega))
  have hn0 : ¬ ((n : Int) < 0) := by omega
  have hn1 : (n : Int) > 0 := by omega
  have hG0 : G ≤ 9223372036854775807 := by unfold maxLen at hG63; omega
  clear hG hG63
  go_enter Tryz.func92, Tryz.ntmps92
  go_wp2_with (at_builtin; refine Lib.wpList_append_run _ rfl _ _ _ _ rfl _ _ rfl rfl _ _ (hrz _) ?_)
  all_goals (go_ret; exact ⟨_, rfl, HOwn.out, ((Below.refl _ w).drew).alloc (Nat.le_refl _) _⟩)
theorem grow_zero (w : World) :
    Calls Tryz.prog 92 #[.slice none 0 0, .int .i64 0] w fun e w' => e = .returned (.slice none 0 0) ∧ w = w' := by
  go_enter Tryz.func92, Tryz.ntmps92
  go_wp2_with fail
  go_ret
  exact ⟨rfl, rfl⟩
theorem grow_any (n : Nat) (hn : n ≤ 40000) (w : World) :
    Calls Tryz.prog 92 #[.slice none 0 0, .int .i64 (n : Int)] w fun e w' => ∃ v, e = .returned v ∧ OwnL w.heap.size v [] w' ∧ Below w.heap.size w w' := by
  rcases Nat.eq_zero_or_pos n with h0 | h0
  · subst h0
    refine (grow_zero w).mono ?_
    rintro e w' ⟨rfl, rfl⟩
    exact ⟨_, rfl, World.ownsRow_nil _ _ _ _, Below.refl _ _⟩
  · exact grow_nil n h0 hn w
/-- an append of a list to what is owned -/
theorem app_list {ops : Array Oper} {rest : List Oper} {o : Oper} {a : Act} {Q : Exit → Act → World → Prop} {w : World} (hgd : o.guard = none) (s x : Operand)
    (ho : o.op = .call { callee := .builtin .append, args := #[s, x], argTypes := #[26, 26] })
    (base : Nat) (v : Value) (L : List ByteArray) (hown : OwnL base v L w) (hs : a.eval s = v) (p : PV) (hp : p.ok w) (hx : a.eval x = p.val)
    (hL : L.length + p.l.length ≤ 40000) (hbase : base ≤ w.heap.size)
    (h : ∀ A c w', OwnL base (.slice A (L.length + p.l.length) c) (L ++ p.l) w' → Below base w w' → wpList Tryz.prog ops Q rest (a.put o.dst (.slice A (L.length + p.l.length) c)) w') : wpList Tryz.prog ops Q (o :: rest) a w := by
  obtain ⟨i0, hi, hz0, hz1, hz2⟩ := info_parts strInfo
  refine wpList_append_own _ hgd s x 26 ho base 9 i0 (.string ByteArray.empty) 1 16 Tryz.underlying26 hi hz0 hz1 hz2 rfl (by decide) v L.length (strV L) hs hown ⟨p.b, p.off, none⟩ p.l.length p.c (strV p.l) hx (by simp) (fun j u hu => ?_) (fun u hu => by
    obtain ⟨y, _, rfl⟩ := List.mem_map.1 hu
    rfl) (by unfold maxLen; omega) (by omega) hbase ?_
  · rw [WideShapes.add_plain]
    rw [List.getElem?_map] at hu
    obtain ⟨y, hy, rfl⟩ := Option.map_eq_some_iff.1 hu
    obtain ⟨hj, rfl⟩ := List.getElem?_eq_some_iff.1 hy
    exact hp.cell j hj
  · intro v' w' h1 h2 _
    have h3 : OwnL base v' (L ++ p.l) w' := by
      unfold OwnL
      rw [List.length_append, strV, List.map_append]
      exact h1
    obtain ⟨A, c, rfl⟩ := h3.form
    rw [List.length_append] at h3 ⊢
    exact h A c w' h3 ((Below.refl base w).grown h2 hbase (fun g hg => (World.ownsRow.lt hown g hg).1))

set_option maxRecDepth 100000 in
set_option maxHeartbeats 3200000 in
theorem concat_any (V : List PV) (g : Nat) (w : World) (hg : g < w.heap.size) (hc : ∀ j (h : j < V.length), w.cell? ⟨g, j, none⟩ = some V[j].val) (hok : ∀ p ∈ V, p.ok w) (hn : V.length ≤ 1000) (hs : (PV.all V).length ≤ 10000) :
    Calls Tryz.prog 62 #[.slice (some ⟨g, 0, none⟩) V.length V.length] w fun e w' => ∃ v, e = .returned v ∧ OwnL w.heap.size v (PV.all V) w' ∧ Below w.heap.size w w' := by
  have HC := Lib.hid hc
  have HO := Lib.hid hok
  have HS := Lib.hid hs
  clear hc hok hs
  go_enter Tryz.func62, Tryz.ntmps62
  go_wp2_with fail
  go_loopw [3, 11] (fun s3 s11 wr => ∃ k : Nat, k ≤ V.length ∧ s11 = .int .i64 (k : Int) ∧ (∃ z : Nat, s3 = .int .i64 (z : Int) ∧ Hid (z = (PV.all (V.take k)).length)) ∧ wr = w) (fun _ s11 _ => V.length - (intOf s11).toNat)
  case atStart => exact ⟨0, Nat.zero_le _, rfl, ⟨0, rfl, Lib.hid rfl⟩, rfl⟩
  case round =>
    obtain ⟨k, hk, rfl, ⟨z, rfl, HZ⟩, hwr⟩ := hrel
    have hzs : z ≤ 10000 := by rw [HZ.out]; exact Nat.le_trans (PV.all_le V k) HS.out
    obtain ⟨wq, hwq⟩ : ∃ wq, wq = wr := ⟨_, rfl⟩
    subst hwr
    clear hwq wq
    by_cases hlt : k < V.length
    · have hltz : (k : Int) < (V.length : Int) := by omega
      have hk1 : IntKind.i64.wrap ((k : Int) + 1) = ((k + 1 : Nat) : Int) := IntWalk.i64_in _ (by omega)
      have hcell := HC.out k hlt
      have HNZ : Hid (z + V[k].l.length = (PV.all (V.take (k + 1))).length) := Lib.hid (by rw [PV.all_take V k hlt, List.length_append, HZ.out])
      have hnz : z + V[k].l.length ≤ 10000 := by rw [HNZ.out]; exact Nat.le_trans (PV.all_le V _) HS.out
      unfold PV.val at hcell
      obtain ⟨p, hp⟩ : ∃ p, p = V[k] := ⟨_, rfl⟩
      rw [← hp] at hcell HNZ hnz
      obtain ⟨m, hm⟩ : ∃ m, m = p.l.length := ⟨_, rfl⟩
      rw [← hm] at hcell HNZ hnz
      have hzm : IntKind.i64.wrap ((z : Int) + (m : Int)) = ((z + m : Nat) : Int) := IntWalk.i64_in _ (by omega)
      have hz0 : ¬ ((z + m : Nat) : Int) < 0 := by omega
      have hz1 : ¬ ((z : Int) + (m : Int)) < 0 := by omega
      clear hp hm
      go_wp2_with fail
      exact ⟨⟨k + 1, by omega, by simp, ⟨z + m, by simp, HNZ⟩, by simp⟩, by simp [intOf]; omega⟩
    · obtain rfl : k = V.length := by omega
      have HZ2 : Hid (z = (PV.all V).length) := Lib.hid (by rw [HZ.out, List.take_length])
      clear HZ
      obtain ⟨wB, hwB⟩ : ∃ x, x = wr := ⟨_, rfl⟩
      subst hwB
      go_wp2_with fail
      refine (grow_any z (by omega) _).mono ?_
      rintro e w2 ⟨v, rfl, hown, hb⟩
      have HW := Lib.hid hown
      have HB := Lib.hid hb
      clear hown hb
      go_wp2_with fail
      go_loopw [6, 27] (fun s6 s27 wx => ∃ k : Nat, k ≤ V.length ∧ s27 = .int .i64 (k : Int) ∧ Hid (OwnL wB.heap.size s6 (PV.all (V.take k)) wx) ∧ Hid (Below wB.heap.size wB wx)) (fun _ s27 _ => V.length - (intOf s27).toNat)
      case atStart => exact ⟨0, Nat.zero_le _, rfl, HW, HB⟩
      case round =>
        obtain ⟨k, hk, rfl, HOW, HBX⟩ := hrel
        by_cases hlt : k < V.length
        · have hltz : (k : Int) < (V.length : Int) := by omega
          have hk1 : IntKind.i64.wrap ((k : Int) + 1) = ((k + 1 : Nat) : Int) := IntWalk.i64_in _ (by omega)
          have hcell := (HBX.out.cell (p := ⟨g, k, none⟩) hg).trans (HC.out k hlt)
          have HNX : Hid (PV.all (V.take (k + 1)) = PV.all (V.take k) ++ V[k].l) := Lib.hid (PV.all_take V k hlt)
          have HLE : Hid ((PV.all (V.take k)).length + V[k].l.length ≤ 10000) := Lib.hid (by rw [← List.length_append, ← HNX.out]; exact Nat.le_trans (PV.all_le V _) HS.out)
          have HPK := Lib.hid ((HO.out V[k] (List.getElem_mem hlt)).keep HBX.out)
          obtain ⟨p, hp⟩ : ∃ p, p = V[k] := ⟨_, rfl⟩
          rw [← hp] at hcell HNX HPK HLE
          obtain ⟨LK, hLK⟩ : ∃ LK, LK = PV.all (V.take k) := ⟨_, rfl⟩
          rw [← hLK] at HOW HNX HLE
          unfold PV.val at hcell
          obtain ⟨A6, c6, e6⟩ := HOW.out.form
          subst e6
          clear hp hLK
          go_wp2_with (at_builtin; refine app_list rfl _ _ rfl wB.heap.size _ LK HOW.out rfl p HPK.out rfl (by have := HLE.out; omega) HBX.out.size ?_)
          intro A4 c4 w4 ho4 hb4
          have HW4 := Lib.hid ho4
          have HB4 := Lib.hid (HBX.out.trans hb4)
          clear ho4 hb4
          go_wp2_with fail
          exact ⟨⟨k + 1, by omega, by simp, Lib.hid (by rw [HNX.out]; exact HW4.out), HB4⟩, by simp [intOf]; omega⟩
        · obtain rfl : k = V.length := by omega
          have HW2 : Hid (OwnL wB.heap.size u6 (PV.all V) wr) := Lib.hid (by have := HOW.out; rwa [List.take_length] at this)
          go_wp2_with fail
          go_ret
          exact ⟨_, rfl, HW2.out, HBX.out⟩
end Go.Proofs.YtppnhdcnjbjibaaGreatDoor
