/- TopMerged: slices.Grow, Concat and SortStableFunc of hunks. (Printed by tools/gtmg.py out of the texts of FiresAreNexts.) -/
import Derived.Test.YtpnnojepbmpfiaaDoorTmF
import Derived.Lib.AppendZeros
import Derived.Laws.AppendOwnNone
namespace Go.Proofs.YtpnnojepbmpfiaaDoor
open Go.RowKit Go.Sort

theorem box_cell (w : World) (cs : Array Value) (T : TypeId) (j : Nat) : (w.alloc (.cells cs T)).cell? ⟨w.heap.size, j, none⟩ = cs[j]? := cell_of_row _ _ _ _ _ _ (heap_alloc_new w _)
structure BoxC (bx : Nat) (cs : Array Value) (w : World) : Prop where
  lt : bx < w.heap.size
  cells : ∀ j, w.cell? ⟨bx, j, none⟩ = cs[j]?
theorem BoxC.start (w : World) (cs : Array Value) (T : TypeId) : BoxC w.heap.size cs (w.alloc (.cells cs T)) := ⟨by simp, box_cell w cs T⟩
theorem BoxC.keep {bx : Nat} {cs : Array Value} {w w' : World} (h : BoxC bx cs w) (hb : Below w.heap.size w w') : BoxC bx cs w' :=
  ⟨Nat.lt_of_lt_of_le h.lt hb.size, fun j => (hb.cell (p := ⟨bx, j, none⟩) h.lt).trans (h.cells j)⟩
def tagL : Nat → List EV → List (Nat × EV)
  | _, [] => []
  | t, x :: l => (t, x) :: tagL (t + 1) l
theorem tagL_snd : ∀ (t : Nat) (l : List EV), (tagL t l).map (·.2) = l
  | _, [] => rfl
  | t, x :: l => by rw [tagL, List.map_cons, tagL_snd]
theorem tagL_ge : ∀ (t : Nat) (l : List EV), ∀ p ∈ tagL t l, t ≤ p.1 ∧ p.2 ∈ l
  | _, [], p, h => by cases h
  | t, x :: l, p, h => by
    rcases List.mem_cons.1 h with e | h
    · subst e; exact ⟨Nat.le_refl _, List.mem_cons_self⟩
    · have := tagL_ge (t + 1) l p h
      exact ⟨by omega, List.mem_cons_of_mem _ this.2⟩
theorem tagL_rise : ∀ (t : Nat) (l : List EV), Rise (tagL t l)
  | _, [] => List.Pairwise.nil
  | t, x :: l => List.pairwise_cons.2 ⟨fun p hp => by have := (tagL_ge (t + 1) l p hp).1; show t < p.1; omega, tagL_rise (t + 1) l⟩
theorem tagL_order {R : EV → EV → Prop} : ∀ (t : Nat) (l : List EV), l.Pairwise R → ∀ p ∈ tagL t l, ∀ q ∈ tagL t l, p.1 < q.1 → R p.2 q.2
  | _, [], _, p, hp, _, _, _ => by cases hp
  | t, x :: l, h, p, hp, q, hq, hlt => by
    obtain ⟨h1, h2⟩ := List.pairwise_cons.1 h
    rcases List.mem_cons.1 hp with e | hp
    · subst e
      rcases List.mem_cons.1 hq with e | hq
      · subst e; exact absurd hlt (Nat.lt_irrefl _)
      · exact h1 _ (tagL_ge (t + 1) l q hq).2
    · rcases List.mem_cons.1 hq with e | hq
      · subst e
        have := (tagL_ge (t + 1) l p hp).1
        have : p.1 < t := hlt
        omega
      · exact tagL_order (t + 1) l h2 p hp q hq hlt
set_option maxRecDepth 100000 in
set_option maxHeartbeats 1600000 in
theorem grow_nil (n : Nat) (h0 : 0 < n) (hn : n ≤ 40000) (w : World) :
    Calls Tryd.prog 38 #[.slice none 0 0, .int .i64 (n : Int)] w fun e w' => ∃ v, e = .returned v ∧ w'.ownsRow w.heap.size 68 4 v 0 [] ∧ Below w.heap.size w w' := by
  obtain ⟨i0, hi, hz0, hz1, hz2⟩ := info_parts hunkInfo
  have hrz : ∀ ty, (Builtin.append_ #[43, 3] ty #[.slice none 0 0, .int .i64 (n : Int)]).run Tryd.prog w = .ok (.slice (some ⟨w.heap.size, 0, none⟩) n (grownCap w n 0 68)) (w.drew.alloc (.cells (Builtin.zeroCells (Value.agg #[.int .i64 0, .int .i64 0, .slice none 0 0, .slice none 0 0]).cells n ++ Builtin.zeroCells (Value.agg #[.int .i64 0, .int .i64 0, .slice none 0 0, .slice none 0 0]).cells (grownCap w n 0 68 - n)) 68)) := fun ty =>
    Lib.run_append_nil_zeros w 43 3 ty 68 i0 _ .i64 .i64 Tryd.underlying43 Tryd.underlying3 hi hz0 n h0 (by omega) (by omega) (by rw [hz2]; omega)
  have hGn : n ≤ grownCap w n 0 68 := grownCap_ge w _ _ _
  have hG63 := grownCap_le_maxLen w n 0 68 (by unfold maxLen; omega)
  obtain ⟨G, hG⟩ : ∃ G, G = grownCap w n 0 68 := ⟨_, rfl⟩
  rw [← hG] at hrz hGn hG63
  have HOwn := Lib.hid (World.ownsRow_made (base := w.heap.size) (e := 68) (size := 4) w.drew (Builtin.zeroCells (Value.agg #[.int .i64 0, .int .i64 0, .slice none 0 0, .slice none 0 0]).cells n ++ Builtin.zeroCells (Value.agg #[.int .i64 0, .int .i64 0, .slice none 0 0, .slice none 0 0]).cells (G - n)) G (Nat.le_refl _) hG63 (by
    rw [Array.size_append, size_zeroCells, size_zeroCells]
    show n * 4 + (G - n) * 4 = G * 4
    omega))
  have hn0 : ¬ ((n : Int) < 0) := by omega
  have hn1 : (n : Int) > 0 := by omega
  have hG0 : G ≤ 9223372036854775807 := by unfold maxLen at hG63; omega
  clear hG hG63
  go_enter Tryd.func38, Tryd.ntmps38
  go_wp2_with (at_builtin; refine Lib.wpList_append_run _ rfl _ _ _ _ rfl _ _ rfl rfl _ _ (hrz _) ?_)
  all_goals (go_ret; exact ⟨_, rfl, HOwn.out, ((Below.refl _ w).drew).alloc (Nat.le_refl _) _⟩)
theorem pre_cells {b off : Nat} {O : List EV} {w : World} (hp : ∀ j (h : j < O.length), w.cell? ⟨b, off + j * 4, none⟩ = some (k0 O[j]) ∧ w.cell? ⟨b, off + j * 4 + 1, none⟩ = some (k1 O[j]) ∧ w.cell? ⟨b, off + j * 4 + 2, none⟩ = some (k2 O[j]) ∧ w.cell? ⟨b, off + j * 4 + 3, none⟩ = some (k3 O[j])) (j : Nat) (u : Value) (hu : (prE O)[j]? = some u) : w.cell? ((⟨b, off, none⟩ : Addr).add j) = some u := by
  have hj : j < O.length * 4 := by rw [← prE_len]; exact (List.getElem?_eq_some_iff.1 hu).1
  obtain ⟨q0, q1, q2, q3⟩ := hp (j / 4) (by omega)
  obtain ⟨e0, e1, e2, e3⟩ := prE_at O (j / 4) (by omega)
  rw [WideShapes.add_plain]
  have hm : j % 4 = 0 ∨ j % 4 = 1 ∨ j % 4 = 2 ∨ j % 4 = 3 := by omega
  rcases hm with h0 | h0 | h0 | h0
  · rw [show j / 4 * 4 = j by omega] at q0 e0
    rw [q0, ← hu, e0]
  · rw [show j / 4 * 4 + 1 = j by omega] at e1
    rw [show off + j / 4 * 4 + 1 = off + j by omega] at q1
    rw [q1, ← hu, e1]
  · rw [show j / 4 * 4 + 2 = j by omega] at e2
    rw [show off + j / 4 * 4 + 2 = off + j by omega] at q2
    rw [q2, ← hu, e2]
  · rw [show j / 4 * 4 + 3 = j by omega] at e3
    rw [show off + j / 4 * 4 + 3 = off + j by omega] at q3
    rw [q3, ← hu, e3]
theorem ke_cells {ad : Addr} {O : List EV} {w : World} (h : 0 < O.length → ∃ b off, some ad = some ⟨b, off, none⟩ ∧ PrE b off O w) (j : Nat) (u : Value) (hu : (prE O)[j]? = some u) : w.cell? (ad.add j) = some u := by
  have hj : j < O.length * 4 := by rw [← prE_len]; exact (List.getElem?_eq_some_iff.1 hu).1
  obtain ⟨b, off, e, _, hp⟩ := h (by omega)
  have e2 : ad = ⟨b, off, none⟩ := Option.some.inj e
  rw [e2]
  exact pre_cells hp j u hu
/-- an append of a list to what is owned -/
theorem app_ke {w : World} {ops : Array Oper} {rest : List Oper} {o : Oper} {a : Act} {Q : Exit → Act → World → Prop} (hgd : o.guard = none) (s x : Operand)
    (ho : o.op = .call { callee := .builtin .append, args := #[s, x], argTypes := #[43, 43] })
    (base : Nat) (v : Value) (n : Nat) (xs : List Value) (hs : a.eval s = v) (hown : w.ownsRow base 68 4 v n xs) (u : Value) (O : List EV) (hx : a.eval x = u) (hk : KE w u O)
    (h63 : n + O.length ≤ 40000) (hbase : base ≤ w.heap.size)
    (h : ∀ v' w', w'.ownsRow base 68 4 v' (n + O.length) (xs ++ prE O) → w.grownBy w' v.ownBlock → wpList Tryd.prog ops Q rest (a.put o.dst v') w') : wpList Tryd.prog ops Q (o :: rest) a w := by
  obtain ⟨i0, hi, hz0, hz1, hz2⟩ := info_parts hunkInfo
  obtain ⟨A, c, rfl, _, hA, hc⟩ := hk
  cases A with
  | none =>
    have hc0 := hA rfl
    subst hc0
    have hO : O.length = 0 := by
      rcases Nat.eq_zero_or_pos O.length with h0 | h0
      · exact h0
      · obtain ⟨_, _, e, _⟩ := hc h0
        cases e
    have hO2 : O = [] := List.length_eq_zero_iff.1 hO
    subst hO2
    exact wpList_append_own_none hgd s x 43 ho base 68 i0 4 Tryd.underlying43 hi v n xs hs hown hx (h v w (by simpa [prE] using hown) ⟨rfl, rfl, rfl, Nat.le_refl _, fun _ _ _ => rfl⟩)
  | some ad =>
    exact wpList_append_own _ hgd s x 43 ho base 68 i0 (.agg #[.int .i64 0, .int .i64 0, .slice none 0 0, .slice none 0 0]) 4 64 Tryd.underlying43 hi hz0 hz1 hz2 rfl (by decide) v n xs hs hown ad O.length c (prE O) hx (prE_len O) (ke_cells hc) (prE_one O) (by unfold maxLen; omega) (by omega) hbase (fun v' w' h1 h2 _ => h v' w' h1 h2)
theorem grow_zero (w : World) :
    Calls Tryd.prog 38 #[.slice none 0 0, .int .i64 0] w fun e w' => e = .returned (.slice none 0 0) ∧ w = w' := by
  go_enter Tryd.func38, Tryd.ntmps38
  go_wp2_with fail
  go_ret
  exact ⟨rfl, rfl⟩
theorem grow_any (n : Nat) (hn : n ≤ 40000) (w : World) :
    Calls Tryd.prog 38 #[.slice none 0 0, .int .i64 (n : Int)] w fun e w' => ∃ v, e = .returned v ∧ w'.ownsRow w.heap.size 68 4 v 0 [] ∧ Below w.heap.size w w' := by
  rcases Nat.eq_zero_or_pos n with h0 | h0
  · subst h0
    refine (grow_zero w).mono ?_
    rintro e w' ⟨rfl, rfl⟩
    exact ⟨_, rfl, World.ownsRow_nil _ _ _ _, Below.refl _ _⟩
  · exact grow_nil n h0 hn w
set_option maxRecDepth 100000 in
set_option maxHeartbeats 3200000 in
theorem concat_any (O1 O2 : List EV) (v1 v2 : Value) (g : Nat) (w : World) (hg : BoxC g #[v1, v2] w) (h1 : KE w v1 O1) (h2 : KE w v2 O2) (hn1 : O1.length ≤ 10000) (hn2 : O2.length ≤ 10000) :
    Calls Tryd.prog 24 #[.slice (some ⟨g, 0, none⟩) 2 2] w fun e w' => ∃ v n, e = .returned v ∧ w'.ownsRow w.heap.size 68 4 v n (prE (O1 ++ O2)) ∧ Below w.heap.size w w' := by
  have HK1 := Lib.hid h1
  have HK2 := Lib.hid h2
  obtain ⟨A1, c1, rfl, q1, _, _⟩ := h1
  obtain ⟨A2, c2, rfl, q2, _, _⟩ := h2
  have HG := Lib.hid hg
  obtain ⟨n1, hl1⟩ : ∃ n1, O1.length = n1 := ⟨_, rfl⟩
  obtain ⟨n2, hl2⟩ : ∃ n2, O2.length = n2 := ⟨_, rfl⟩
  rw [hl1] at HK1 HG hn1
  rw [hl2] at HK2 HG hn2
  have HL := Lib.hid (And.intro hl1 hl2)
  have cg := HG.out.cells
  clear hg q1 q2 hl1 hl2
  go_enter Tryd.func24, Tryd.ntmps24
  go_wp2_with fail
  refine wp_loop_rounds 3 ?_
  rw [rounds_succ]
  go_wp2_with fail
  rw [rounds_succ]
  go_wp2_with fail
  rw [rounds_succ]
  go_wp2_with fail
  rw [show (n1 : Int) + (n2 : Int) = ((n1 + n2 : Nat) : Int) by omega]
  refine (grow_any (n1 + n2) (by omega) w).mono ?_
  rintro e w2 ⟨v, rfl, hown, hb⟩
  have HO := Lib.hid hown
  have HB := Lib.hid hb
  have HG2 := Lib.hid (HG.out.keep hb)
  clear cg hown hb
  have cg := HG2.out.cells
  go_wp2_with fail
  refine wp_loop_rounds 3 ?_
  rw [rounds_succ]
  go_wp2_with (at_builtin; refine app_ke rfl _ _ rfl w.heap.size v 0 [] rfl HO.out _ O1 rfl (HK1.out.keep HB.out) (by have := HL.out; omega) HB.out.size ?_)
  intro v3 w3 hown3 hg3
  have HB3 := Lib.hid (HB.out.grown hg3 HB.out.size (fun k hk => (HO.out.lt k hk).1))
  have HO3 := Lib.hid hown3
  have HG3 := Lib.hid (HG.out.keep HB3.out)
  clear cg hown3 hg3
  have cg := HG3.out.cells
  go_wp2_with fail
  rw [rounds_succ]
  go_wp2_with (at_builtin; refine app_ke rfl _ _ rfl w.heap.size v3 _ _ rfl HO3.out _ O2 rfl (HK2.out.keep HB3.out) (by have := HL.out; omega) HB3.out.size ?_)
  intro v4 w4 hown4 hg4
  have HB4 := Lib.hid (HB3.out.grown hg4 HB3.out.size (fun k hk => (HO3.out.lt k hk).1))
  have HO4 := Lib.hid hown4
  clear cg hown4 hg4
  go_wp2_with fail
  rw [rounds_succ]
  go_wp2_with fail
  go_ret
  have := HO4.out
  rw [show prE O1 ++ prE O2 = prE (O1 ++ O2) by simp [prE]] at this
  exact ⟨_, _, rfl, this, HB4.out⟩
theorem ins_nil (w : World) :
    Calls Tryd.prog 53 #[.slice none 0 0, .int .i64 0, .int .i64 0, .func (.func 26) #[] #[]] w fun e w' => e = .returned (.tuple #[]) ∧ w = w' := by
  go_enter Tryd.func53, Tryd.ntmps53
  go_wp2_with fail
  go_loopw [8] (fun s8 wr => s8 = .int .i64 1 ∧ wr = w) (fun _ _ => 0)
  case atStart => exact ⟨rfl, rfl⟩
  case round =>
    obtain ⟨rfl, rfl⟩ := hrel
    go_wp2_with fail
    go_end0
    exact ⟨rfl, rfl⟩
set_option maxHeartbeats 1600000 in
theorem stable_nil (w : World) :
    Calls Tryd.prog 39 #[.slice none 0 0, .int .i64 0, .func (.func 26) #[] #[]] w fun e w' => e = .returned (.tuple #[]) ∧ w = w' := by
  go_enter Tryd.func39, Tryd.ntmps39
  go_wp2_with fail
  go_loopw [7, 8] (fun s7 s8 wr => s7 = .int .i64 0 ∧ s8 = .int .i64 20 ∧ wr = w) (fun _ _ _ => 0)
  case atStart => exact ⟨rfl, rfl, rfl⟩
  case round =>
    obtain ⟨rfl, rfl, rfl⟩ := hrel
    go_wp2_with fail
    refine (ins_nil _).mono ?_
    rintro e w2 ⟨rfl, rfl⟩
    go_wp2_with fail
    go_loopw [6] (fun s6 wx => s6 = .int .i64 20 ∧ wx = wr) (fun _ _ => 0)
    case atStart => exact ⟨rfl, rfl⟩
    case round =>
      obtain ⟨rfl, rfl⟩ := hrel
      go_wp2_with fail
      go_end0
      exact ⟨rfl, rfl⟩
set_option maxHeartbeats 1600000 in
theorem sort_nil (w : World) :
    Calls Tryd.prog 25 #[.slice none 0 0, .func (.func 26) #[] #[]] w fun e w' => e = .returned (.tuple #[]) ∧ w = w' := by
  go_enter Tryd.func25, Tryd.ntmps25
  go_wp2_with fail
  refine (stable_nil _).mono ?_
  rintro e w2 ⟨rfl, rfl⟩
  go_wp2_with fail
  go_end0
  exact ⟨rfl, rfl⟩
theorem fl_tag : ∀ (L : List (Nat × EV)), flE L = prE (L.map (·.2))
  | [] => rfl
  | x :: L => by
    show k0 x.2 :: k1 x.2 :: k2 x.2 :: k3 x.2 :: flE L = k0 x.2 :: k1 x.2 :: k2 x.2 :: k3 x.2 :: prE (L.map (·.2))
    rw [fl_tag L]
/-- a row that is the call's own, as it is sorted -/
theorem own_dat {w : World} {B g n cap : Nat} {O : List EV} (h : w.ownsRow B 68 4 (.slice (some ⟨g, 0, none⟩) n cap) n (prE O)) : Dat 68 w g n cap (tagL 0 O) ∧ n = O.length ∧ B ≤ g := by
  have hf : flE (tagL 0 O) = prE O := by rw [fl_tag, tagL_snd]
  have hl : (tagL 0 O).length = O.length := by
    have := congrArg List.length (tagL_snd 0 O)
    rwa [List.length_map] at this
  have hn : n = O.length := by have := h.1; rw [prE_len] at this; omega
  rcases h.2 with ⟨h0, _⟩ | ⟨g', cap', cur, hv, hb, h3⟩
  · cases h0
  · injection hv with e1 e2 e3
    injection e1 with e1
    injection e1 with e1
    subst e1
    have e4 : cap = cap' := by assumption
    subst e4
    refine ⟨⟨⟨?_, .inr ⟨g, cap, cur, rfl, Nat.le_refl _, ?_⟩⟩, by omega⟩, hn, hb⟩
    · rw [hf]; exact h.1
    · rw [hf]; exact h3
theorem Only.above {b : Nat} {w a w' : World} (h : Only b a w') (ha : Below w.heap.size w a) (hB : w.heap.size ≤ b) : Below w.heap.size w w' :=
  ⟨h.os.trans ha.os, h.tape.trans ha.tape, h.output.trans ha.output, Nat.le_trans ha.size h.size, fun k hk => (h.block k (Nat.lt_of_lt_of_le hk ha.size) (by omega)).trans (ha.block k hk)⟩
end Go.Proofs.YtpnnojepbmpfiaaDoor
