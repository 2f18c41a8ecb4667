/- TopMerged: the law, walked. (Printed by tools/gtmp.py.) -/
import Derived.Test.YtpnnojepbmpfiaaDoorTmO
namespace Go.Proofs.YtpnnojepbmpfiaaDoor
open Go.RowKit

theorem run_append_zero {P : Program} {w : World} (base : Nat) (t ty e : TypeId) (i : TypeInfo) (size c : Nat) (x : Option Addr) (ht : P.underlying t = some (.slice e)) (hi : P.info? e = some i)
    (v : Value) (n : Nat) (xs : List Value) (hown : w.ownsRow base e size v n xs) :
    (Builtin.append_ #[t, t] ty #[v, .slice x 0 c]).run P w = .ok v w := by
  rcases hown.2 with ⟨rfl, rfl⟩ | ⟨g, cap, cur, rfl, _, _, hnc, _⟩
  · cases x <;> simp [Builtin.append_, run_underlying ht, sizeOf, typeInfo, hi, Builtin.lenOf, Builtin.firstCells, loadCells, loadCellsFrom]
  · cases x <;> simp [Builtin.append_, run_underlying ht, sizeOf, typeInfo, hi, Builtin.lenOf, Builtin.firstCells, hnc, storeCells, loadCells, loadCellsFrom]
theorem wp_append_zero {P : Program} {w : World} {o : Oper} {a : Act} {K : Act → World → Prop} {Q : Exit → Act → World → Prop} (s x : Operand) (t : TypeId)
    (ho : o.op = .call { callee := .builtin .append, args := #[s, x], argTypes := #[t, t] })
    (base : Nat) (e : TypeId) (i : TypeInfo) (size c : Nat) (y : Option Addr) (ht : P.underlying t = some (.slice e)) (hi : P.info? e = some i)
    (v : Value) (n : Nat) (xs : List Value) (hs : a.eval s = v) (hown : w.ownsRow base e size v n xs) (hx : a.eval x = .slice y 0 c)
    (h : K (a.put o.dst v) w) : o.wp P a w K Q := by
  have hrun := run_append_zero (P := P) (w := w) base t o.type e i size c y ht hi v n xs hown
  unfold Oper.wp
  simp [execOp, ho, resolve, invoke, builtin, hs, hx, hrun, Result.andThen]
  exact h
/-- an append of a slice of texts to what is owned, and where the row stands then -/
theorem wp_sla {w : World} {o : Oper} {a : Act} {K : Act → World → Prop} {Q : Exit → Act → World → Prop} (s x : Operand)
    (ho : o.op = .call { callee := .builtin .append, args := #[s, x], argTypes := #[22, 22] })
    (B : Nat) (sv0 : SV) (xs : List ByteArray) (hs : a.eval s = sv sv0) (hown : OwnS w B sv0 xs) (sx : SV) (L : List ByteArray) (hx : a.eval x = sv sx) (hk : SL w (sv sx) L)
    (h63 : xs.length + L.length ≤ 100000000) (hbase : B ≤ w.heap.size)
    (h : ∀ s' w', OwnS w' B s' (xs ++ L) → w.grownBy w' (sv sv0).ownBlock → Moved w (sv sv0).ownBlock (sv s').ownBlock → K (a.put o.dst (sv s')) w') : o.wp Tryd.prog a w K Q := by
  obtain ⟨i0, hi, hz0, hz1, hz2⟩ := info_parts strInfo
  obtain ⟨A, n, c⟩ := sx
  have hn : n = L.length := hk.len
  subst hn
  by_cases h0 : L = []
  · subst h0
    exact wp_append_zero s x 22 ho B 9 i0 1 c A Tryd.underlying22 hi (sv sv0) _ _ hs hown hx (h sv0 w (by rw [List.append_nil]; exact hown) ⟨rfl, rfl, rfl, Nat.le_refl _, fun _ _ _ => rfl⟩ (.inl rfl))
  · have hpos : 0 < L.length := List.length_pos_iff.2 h0
    obtain ⟨ad, rfl⟩ : ∃ ad, A = some ad := by
      obtain ⟨A', c', e, _, hy⟩ := hk
      injection e with e1 _ _
      obtain ⟨b, off, e2, _⟩ := hy hpos
      exact ⟨_, e1.trans e2⟩
    refine wp_append_lies w s x 22 ho B 9 i0 (.string ⟨#[]⟩) 1 16 Tryd.underlying22 hi hz0 hz1 hz2 rfl (by decide) (sv sv0) xs.length _ hs hown ad L.length c (L.map Value.string) hx (by simp) (sl_cells hk) (strs_one L) hpos (by unfold maxLen; omega) (by omega) hbase _ rfl ?_
    intro g cap w' h1 h2 h3 _
    refine h (some ⟨g, 0, none⟩, xs.length + L.length, cap) w' ?_ h2 ?_
    · show World.ownsRow _ _ _ _ _ (xs ++ L).length _
      rw [List.length_append, List.map_append]
      exact h1
    · rcases h3 with e | e
      · exact .inl e.symm
      · exact .inr ⟨g, rfl, by omega⟩
theorem ne_sym {x y : Option Nat} (h : x = none ∨ x ≠ y) : y = none ∨ y ≠ x := by
  rcases h with rfl | h
  · cases y with
    | none => exact .inl rfl
    | some k => exact .inr (by simp)
  · exact .inr (Ne.symm h)
/-- what is taken of the left (the right) side -/
def lft (q : PC) : List ByteArray := if q.conf = true then q.pa else q.ln
def rgt (q : PC) : List ByteArray := if q.conf = true then q.pb else q.ln
theorem lft_tot (Q : List PC) : (Q.flatMap lft).length ≤ tot Q ∧ (Q.flatMap rgt).length ≤ tot Q := by
  induction Q with
  | nil => exact ⟨Nat.le_refl _, Nat.le_refl _⟩
  | cons q R ih =>
    simp only [List.flatMap_cons, List.length_append, tot]
    unfold lft rgt at *
    split <;> omega
theorem flat_take {α β : Type} (f : α → List β) (Q : List α) (i : Nat) (hi : i < Q.length) : (Q.take (i + 1)).flatMap f = (Q.take i).flatMap f ++ f Q[i] := by
  rw [List.take_succ_eq_append_getElem hi, List.flatMap_append]
  simp
theorem flat_le {α β : Type} (f : α → List β) (Q : List α) (i : Nat) : ((Q.take i).flatMap f).length ≤ (Q.flatMap f).length := by
  conv => rhs; rw [← List.take_append_drop i Q, List.flatMap_append, List.length_append]
  exact Nat.le_add_right _ _
theorem lft_rgt {Q : List PC} (h : ¬ ∃ q ∈ Q, q.conf = true) : Q.flatMap lft = Q.flatMap rgt := by
  induction Q with
  | nil => rfl
  | cons q R ih =>
    have hq : ¬ q.conf = true := fun e => h ⟨q, List.mem_cons_self, e⟩
    rw [List.flatMap_cons, List.flatMap_cons, ih (fun ⟨x, hx, e⟩ => h ⟨x, List.mem_cons_of_mem _ hx, e⟩)]
    unfold lft rgt
    rw [if_neg hq, if_neg hq]
theorem tot_mem {Q : List PC} {q : PC} (h : q ∈ Q) : q.ln.length + q.ba.length + q.pa.length + q.pb.length ≤ tot Q := by
  induction Q with
  | nil => cases h
  | cons p R ih =>
    simp only [tot]
    rcases List.mem_cons.1 h with rfl | h
    · omega
    · have := ih h; omega
set_option maxRecDepth 100000 in
set_option maxHeartbeats 12800000 in
theorem merged_walk (base a b : List ByteArray) (v0 va vb : Value) (w : World) (h0 : SL w v0 base) (ha : SL w va a) (hb : SL w vb b) (hbig : base.length ≤ 9223372036854775807 ∧ a.length ≤ 9223372036854775807 ∧ b.length ≤ 9223372036854775807) :
    Calls Tryd.prog 3 #[v0, va, vb] w fun e w' => e = .returned (.bool true) ∧ Below w.heap.size w w' := by
  have HS := Lib.hid (And.intro h0 (And.intro ha hb))
  have HBig := Lib.hid hbig
  clear h0 ha hb hbig
  go_enter Tryd.func3, Tryd.ntmps3
  go_wp2_with fail
  refine (landed_any _).mono ?_
  rintro e w1 ⟨rfl, hb1⟩
  have HB1 := Lib.hid hb1
  clear hb1
  go_wp2_with fail
  refine (merge_any base a b v0 va vb w1 (HS.out.1.keep HB1.out) (HS.out.2.1.keep HB1.out) (HS.out.2.2.keep HB1.out) HBig.out).mono ?_
  rintro e w2 ⟨v1, ne, rfl, hne, hp, hb2⟩
  have HB2 := Lib.hid (HB1.out.trans (hb2.mono HB1.out.size))
  by_cases hz : ne = 0
  case neg =>
    have hzb : (ne == 0) = false := beq_eq_false_iff_ne.2 hz
    clear hne hp hb2
    go_wp2_with fail
    go_ret
    exact ⟨rfl, HB2.out⟩
  have HGd := Lib.hid (hne.1 hz)
  obtain ⟨hp1, hp2, hp3⟩ := hp hz
  have HP1 := Lib.hid hp1
  have HT1 := Lib.hid (And.intro hp2 hp3)
  subst hz
  clear hne hp hb2 hp1 hp2 hp3
  go_wp2_with fail
  refine (merge_any base b a v0 vb va w2 (HS.out.1.keep HB2.out) (HS.out.2.2.keep HB2.out) (HS.out.2.1.keep HB2.out) ⟨HBig.out.1, HBig.out.2.2, HBig.out.2.1⟩).mono ?_
  rintro e w3 ⟨v2, ne, rfl, hne, hp, hb3⟩
  obtain rfl : ne = 0 := hne.2 ⟨HGd.out.1, HGd.out.2.2, HGd.out.2.1⟩
  have HB3 := Lib.hid (HB2.out.trans (hb3.mono HB2.out.size))
  have HP1b := Lib.hid (HP1.out.keep hb3)
  have HP2 := Lib.hid (hp rfl).1
  clear hne hp hb3 HP1
  obtain ⟨Q, hQ⟩ : ∃ Q, Q = mergeL base a b := ⟨_, rfl⟩
  rw [mergeL_swap, ← hQ] at HP2
  rw [← hQ] at HP1b HT1
  clear hQ
  obtain ⟨k, hk⟩ : ∃ k, k = Q.length := ⟨_, rfl⟩
  have HK := Lib.hid hk
  obtain ⟨A1, cc1, e1, hc1, hf1⟩ := HP1b.out.form
  obtain ⟨A2, cc2, e2, hc2, hf2⟩ := HP2.out.form
  rw [List.length_map] at e2 hc2
  rw [← hk] at e1 e2 hc1 hc2
  subst e1 e2
  have HF1 := Lib.hid hf1
  have HF2 := Lib.hid hf2
  have hk1 : k ≤ 10000 := by have := HT1.out.2; omega
  clear hf1 hf2 hk
  go_wp2_with fail
  go_loopw [52] (fun s52 wr => ∃ i : Nat, s52 = .int .i64 (i : Int) ∧ Hid (i ≤ k) ∧ Hid (Below w3.heap.size w3 wr)) (fun s52 _ => k - (intOf s52).toNat)
  case atStart => exact ⟨0, rfl, Lib.hid (Nat.zero_le _), Lib.hid (Below.refl _ _)⟩
  case round =>
    obtain ⟨i, rfl, HI, HBr⟩ := hrel
    by_cases hlt : i < k
    · have hltz : (i : Int) < (k : Int) := by omega
      have hiQ : i < Q.length := by rw [← HK.out]; exact hlt
      obtain ⟨b1, ⟨cf, ⟨a1, n1, c1⟩, ⟨a2, n2, c2⟩, ⟨a3, n3, c3⟩, ⟨a4, n4, c4⟩⟩, rfl, hb1, hp1, q0, q1, q2, q3, q4⟩ := HF1.out i hiQ
      obtain ⟨b2, ⟨dg, ⟨x1, m1, d1⟩, ⟨x2, m2, d2⟩, ⟨x3, m3, d3⟩, ⟨x4, m4, d4⟩⟩, rfl, hb2, hp2, r0, r1, r2, r3, r4⟩ := HF2.out i (by rw [List.length_map]; exact hiQ)
      rw [List.getElem_map] at hp2
      have HPx := Lib.hid hp1
      have HPy := Lib.hid hp2
      have HTq := Lib.hid (tot_mem (List.getElem_mem hiQ))
      obtain rfl : dg = cf := hp2.conf.trans hp1.conf.symm
      clear hp1 hp2
      generalize Q[i] = q at *
      have q0 := (HBr.out.cell (p := ⟨b1, i * 5, none⟩) hb1).trans q0
      have q1 := (HBr.out.cell (p := ⟨b1, i * 5 + 1, none⟩) hb1).trans q1
      have q2 := (HBr.out.cell (p := ⟨b1, i * 5 + 2, none⟩) hb1).trans q2
      have q3 := (HBr.out.cell (p := ⟨b1, i * 5 + 3, none⟩) hb1).trans q3
      have q4 := (HBr.out.cell (p := ⟨b1, i * 5 + 4, none⟩) hb1).trans q4
      have r0 := (HBr.out.cell (p := ⟨b2, i * 5, none⟩) hb2).trans r0
      have r1 := (HBr.out.cell (p := ⟨b2, i * 5 + 1, none⟩) hb2).trans r1
      have r2 := (HBr.out.cell (p := ⟨b2, i * 5 + 2, none⟩) hb2).trans r2
      have r3 := (HBr.out.cell (p := ⟨b2, i * 5 + 3, none⟩) hb2).trans r3
      have r4 := (HBr.out.cell (p := ⟨b2, i * 5 + 4, none⟩) hb2).trans r4
      go_upto_region 12 with fail
      have hal := (Below.refl wr.heap.size wr).alloc (Nat.le_refl _) (.cells #[.bool dg, .slice a1 n1 c1, .slice a2 n2 c2, .slice a3 n3 c3, .slice a4 n4 c4] 29)
      have HBa := Lib.hid (Blk.new wr 29 #[.bool dg, .slice a1 n1 c1, .slice a2 n2 c2, .slice a3 n3 c3, .slice a4 n4 c4] rfl)
      have HB4 := Lib.hid (HBr.out.trans (hal.mono HBr.out.size))
      have r0 := (hal.cell (p := ⟨b2, i * 5, none⟩) (Nat.lt_of_lt_of_le hb2 HBr.out.size)).trans r0
      have r1 := (hal.cell (p := ⟨b2, i * 5 + 1, none⟩) (Nat.lt_of_lt_of_le hb2 HBr.out.size)).trans r1
      have r2 := (hal.cell (p := ⟨b2, i * 5 + 2, none⟩) (Nat.lt_of_lt_of_le hb2 HBr.out.size)).trans r2
      have r3 := (hal.cell (p := ⟨b2, i * 5 + 3, none⟩) (Nat.lt_of_lt_of_le hb2 HBr.out.size)).trans r3
      have r4 := (hal.cell (p := ⟨b2, i * 5 + 4, none⟩) (Nat.lt_of_lt_of_le hb2 HBr.out.size)).trans r4
      clear hal HBr q0 q1 q2 q3 q4
      generalize wr.alloc (.cells #[.bool dg, .slice a1 n1 c1, .slice a2 n2 c2, .slice a3 n3 c3, .slice a4 n4 c4] 29) = w4 at *
      generalize wr.heap.size = g1 at *
      go_upto_region 13 with fail
      have hal := (Below.refl w4.heap.size w4).alloc (Nat.le_refl _) (.cells #[.bool dg, .slice x1 m1 d1, .slice x2 m2 d2, .slice x3 m3 d3, .slice x4 m4 d4] 29)
      have HBb := Lib.hid (Blk.new w4 29 #[.bool dg, .slice x1 m1 d1, .slice x2 m2 d2, .slice x3 m3 d3, .slice x4 m4 d4] rfl)
      have HBa5 := Lib.hid (HBa.out.keep hal)
      have HB5 := Lib.hid (HB4.out.trans (hal.mono HB4.out.size))
      clear hal HBa HB4 r0 r1 r2 r3 r4
      generalize w4.alloc (.cells #[.bool dg, .slice x1 m1 d1, .slice x2 m2 d2, .slice x3 m3 d3, .slice x4 m4 d4] 29) = w5 at *
      generalize w4.heap.size = g2 at *
      have pa0 := (HBa5.out.cell.1 0).trans rfl
      have pb0 := (HBb.out.cell.1 0).trans rfl
      have HBb5 := HBb
      have pc0 := (HBa5.out.cell.1 1).trans rfl
      have pd0 := (HBb5.out.cell.1 1).trans rfl
      have hq0 := equal_any q.ln q.ln _ _ w5 (HPx.out.ln.keep HB5.out) (HPy.out.ln.keep HB5.out) (by have := HTq.out; have := HT1.out; omega)
      rw [decide_eq_true rfl] at hq0
      have HE0 := Lib.hid hq0
      clear hq0
      go_wp2_with fail
      refine HE0.out.mono ?_
      rintro e w6 ⟨rfl, hbn⟩
      have HB6 := Lib.hid (HB5.out.trans (hbn.mono HB5.out.size))
      have HBa6 := Lib.hid (HBa5.out.keep hbn)
      have HBb6 := Lib.hid (HBb5.out.keep hbn)
      clear hbn pc0 pd0
      clear pa0 pb0
      have pc1 := (HBa6.out.cell.1 2).trans rfl
      have pd1 := (HBb6.out.cell.1 2).trans rfl
      have hq1 := equal_any q.ba q.ba _ _ w6 (HPx.out.ba.keep HB6.out) (HPy.out.ba.keep HB6.out) (by have := HTq.out; have := HT1.out; omega)
      rw [decide_eq_true rfl] at hq1
      have HE1 := Lib.hid hq1
      clear hq1
      go_wp2_with fail
      refine HE1.out.mono ?_
      rintro e w7 ⟨rfl, hbn⟩
      have HB7 := Lib.hid (HB6.out.trans (hbn.mono HB6.out.size))
      have HBa7 := Lib.hid (HBa6.out.keep hbn)
      have HBb7 := Lib.hid (HBb6.out.keep hbn)
      clear hbn pc1 pd1
      have pc2 := (HBa7.out.cell.1 3).trans rfl
      have pd2 := (HBb7.out.cell.1 4).trans rfl
      have hq2 := equal_any q.pa q.pa _ _ w7 (HPx.out.pa.keep HB7.out) (HPy.out.pb.keep HB7.out) (by have := HTq.out; have := HT1.out; omega)
      rw [decide_eq_true rfl] at hq2
      have HE2 := Lib.hid hq2
      clear hq2
      go_wp2_with fail
      refine HE2.out.mono ?_
      rintro e w8 ⟨rfl, hbn⟩
      have HB8 := Lib.hid (HB7.out.trans (hbn.mono HB7.out.size))
      have HBa8 := Lib.hid (HBa7.out.keep hbn)
      have HBb8 := Lib.hid (HBb7.out.keep hbn)
      clear hbn pc2 pd2
      have pc3 := (HBa8.out.cell.1 4).trans rfl
      have pd3 := (HBb8.out.cell.1 3).trans rfl
      have hq3 := equal_any q.pb q.pb _ _ w8 (HPx.out.pb.keep HB8.out) (HPy.out.pa.keep HB8.out) (by have := HTq.out; have := HT1.out; omega)
      rw [decide_eq_true rfl] at hq3
      have HE3 := Lib.hid hq3
      clear hq3
      go_wp2_with fail
      refine HE3.out.mono ?_
      rintro e w9 ⟨rfl, hbn⟩
      have HB9 := Lib.hid (HB8.out.trans (hbn.mono HB8.out.size))
      have HBa9 := Lib.hid (HBa8.out.keep hbn)
      have HBb9 := Lib.hid (HBb8.out.keep hbn)
      clear hbn pc3 pd3
      go_wp2_with fail
      exact ⟨⟨i + 1, by go_num, Lib.hid hlt, HB9⟩, by simp [intOf]; omega⟩
    · have hnz : ¬ (i : Int) < (k : Int) := by omega
      obtain rfl : i = k := by have := HI.out; omega
      have HP1d := Lib.hid (HP1b.out.keep HBr.out)
      have HB4 := Lib.hid (HB3.out.trans (HBr.out.mono HB3.out.size))
      clear hlt
      obtain ⟨wB, hwB⟩ : ∃ x, x = wr := ⟨_, rfl⟩
      subst hwB
      go_wp2_with fail
      go_loopw [14, 15, 101] (fun s14 s15 s101 wy => ∃ (j : Nat) (sl sr : SV), s14 = sv sl ∧ s15 = sv sr ∧ s101 = .int .i64 (j : Int) ∧ Hid (j ≤ i) ∧ Hid (Below wB.heap.size wB wy) ∧ Hid (OwnS wy wB.heap.size sl ((Q.take j).flatMap lft)) ∧ Hid (OwnF wy wB.heap.size (sv sl).ownBlock sr ((Q.take j).flatMap rgt))) (fun _ _ s101 _ => i - (intOf s101).toNat)
      case atStart => exact ⟨0, (none, 0, 0), (none, 0, 0), rfl, rfl, rfl, Lib.hid (Nat.zero_le _), Lib.hid (Below.refl _ _), Lib.hid (World.ownsRow_nil _ _ _ _), Lib.hid (OwnF.nil _ _ _)⟩
      case round =>
        obtain ⟨j, sl, sr, e14, e15, rfl, HJ, HBy, HLy, HRy⟩ := hrel
        obtain ⟨l1, l2, l3⟩ := sl
        obtain ⟨r1, r2, r3⟩ := sr
        subst e14 e15
        by_cases hlt : j < i
        · have hltz : (j : Int) < (i : Int) := by omega
          have hjQ : j < Q.length := by rw [← HK.out]; exact hlt
          obtain ⟨b1, ⟨cf, ⟨a1, n1, c1⟩, ⟨a2, n2, c2⟩, ⟨a3, n3, c3⟩, ⟨a4, n4, c4⟩⟩, rfl, hb1, hp1, q0, q1, q2, q3, q4⟩ := HF1.out j hjQ
          have hcf : cf = Q[j].conf := hp1.conf
          have HPr := Lib.hid (hp1.keep HBr.out)
          have HFl := Lib.hid (And.intro (flat_take lft Q j hjQ) (flat_take rgt Q j hjQ))
          have HLe := Lib.hid (show ((Q.take j).flatMap lft).length ≤ 20000000 ∧ ((Q.take j).flatMap rgt).length ≤ 20000000 ∧ Q[j].ln.length + Q[j].ba.length + Q[j].pa.length + Q[j].pb.length ≤ 20000000 from by
            have h1 := flat_le lft Q j
            have h2 := flat_le rgt Q j
            have h3 := lft_tot Q
            have h4 := tot_mem (List.getElem_mem hjQ)
            have h5 := HT1.out.1
            omega)
          have hbw := HBr.out.trans (HBy.out.mono HBr.out.size)
          have q0 := (hbw.cell (p := ⟨b1, j * 5, none⟩) hb1).trans q0
          have q1 := (hbw.cell (p := ⟨b1, j * 5 + 1, none⟩) hb1).trans q1
          have q2 := (hbw.cell (p := ⟨b1, j * 5 + 2, none⟩) hb1).trans q2
          have q3 := (hbw.cell (p := ⟨b1, j * 5 + 3, none⟩) hb1).trans q3
          have q4 := (hbw.cell (p := ⟨b1, j * 5 + 4, none⟩) hb1).trans q4
          clear hp1 hbw
          have HCf := Lib.hid hcf
          clear hcf
          generalize (Q.take j).flatMap lft = Y1 at *
          generalize (Q.take j).flatMap rgt = Y2 at *
          generalize Q[j] = q at *
          go_upto_region 20 with fail
          have hal := (Below.refl wr.heap.size wr).alloc (Nat.le_refl _) (.cells #[.bool cf, .slice a1 n1 c1, .slice a2 n2 c2, .slice a3 n3 c3, .slice a4 n4 c4] 29)
          have HBx := Lib.hid (Blk.new wr 29 #[.bool cf, .slice a1 n1 c1, .slice a2 n2 c2, .slice a3 n3 c3, .slice a4 n4 c4] rfl)
          have HBw := Lib.hid (HBy.out.trans (hal.mono HBy.out.size))
          have HLo := Lib.hid (own_keep HLy.out hal)
          have HRo := Lib.hid (HRy.out.elsew (Elsewhere.of_below hal))
          clear hal HBy HLy HRy q0 q1 q2 q3 q4
          generalize wr.alloc (.cells #[.bool cf, .slice a1 n1 c1, .slice a2 n2 c2, .slice a3 n3 c3, .slice a4 n4 c4] 29) = w4 at *
          generalize wr.heap.size = g at *
          have d0 := (HBx.out.cell.1 0).trans rfl
          cases cf with
          | true =>
            have hcf : q.conf = true := HCf.out.symm
            have HL1 := Lib.hid (show lft q = q.pa from if_pos hcf)
            have HL2 := Lib.hid (show rgt q = q.pb from if_pos hcf)
            rw [HL1.out, HL2.out] at HFl
            clear HL1 HL2
            go_upto_region 21 with fail
            have hS : w4.drew.cell? ⟨g, 3, none⟩ = some (.slice a3 n3 c3) ∧ w4.drew.cell? ⟨g, 4, none⟩ = some (.slice a4 n4 c4) := ⟨(HBx.out.cell.1 3).trans rfl, (HBx.out.cell.1 4).trans rfl⟩
            refine wp_region_tail 9 (fun W => W.cell? ⟨g, 3, none⟩ = some (.slice a3 n3 c3) ∧ W.cell? ⟨g, 4, none⟩ = some (.slice a4 n4 c4)) (by kernel_rfl) (by decide) ?_
            refine wpAnyT_take 99 0 (v := ?_) (by kernel_rfl) rfl (by kernel_rfl) (fun _ _ _ h => h) (Or.inl ⟨by rfl, fun W hW => ?_⟩) (by with_reducible assumption) ?_
            rotate_left
            focus ((try dsimp only at hW); go_simp; try with_reducible rfl)
            refine wpAnyT_take 99 1 (v := ?_) (by kernel_rfl) rfl (by kernel_rfl) (fun _ _ _ h => h) (Or.inl ⟨by rfl, fun W hW => ?_⟩) (by with_reducible assumption) ?_
            rotate_left
            focus ((try dsimp only at hW); go_simp; try with_reducible rfl)
            refine wpAnyT_take 99 2 (v := ?_) (by kernel_rfl) rfl (by kernel_rfl) (fun _ _ _ h => h) (Or.inl ⟨by rfl, fun W hW => ?_⟩) (by with_reducible assumption) ?_
            rotate_left
            focus ((try dsimp only at hW); go_simp; try with_reducible rfl)
            refine wpAnyT_take 99 4 (v := ?_) (by kernel_rfl) rfl (by kernel_rfl) (fun _ _ _ h => h) (Or.inl ⟨by rfl, fun W hW => ?_⟩) (by with_reducible assumption) ?_
            rotate_left
            focus ((try dsimp only at hW); go_simp; try with_reducible rfl)
            refine wpAnyT_take 99 5 (v := ?_) (by kernel_rfl) rfl (by kernel_rfl) (fun _ _ _ h => h) (Or.inl ⟨by rfl, fun W hW => ?_⟩) (by with_reducible assumption) ?_
            rotate_left
            focus ((try dsimp only at hW); go_simp; try with_reducible rfl)
            refine wpAnyT_take 99 6 (v := ?_) (by kernel_rfl) rfl (by kernel_rfl) (fun _ _ _ h => h) (Or.inl ⟨by rfl, fun W hW => ?_⟩) (by with_reducible assumption) ?_
            rotate_left
            focus ((try dsimp only at hW); go_simp; try with_reducible rfl)
            simp only [Act.put, List.getElem_toArray, List.getElem_cons_zero, List.getElem_cons_succ, List.setIfInBounds_toArray, List.set_cons_zero, List.set_cons_succ]
            refine wpAnyT_one 3 (by kernel_rfl) (by decide) ?_
            refine wpOp_at rfl rfl (fun K hK => ?_)
            refine wp_sla _ _ (by rfl) wB.heap.size (l1, l2, l3) _ (by rfl) (own_keep HLo.out (Below.refl _ _).drew) ((a3, n3, c3)) (q.pa) (by rfl) (HPr.out.pa.keep HBw.out.drew) (by have := HLe.out; omega) HBw.out.size ?_
            intro sl2 w5 hl2 hg2 hm2
            have hr2 : OwnF w5 wB.heap.size (sv sl2).ownBlock (r1, r2, r3) _ := (HRo.out.elsew (Elsewhere.of_below (Below.refl _ _).drew)).both hg2 hm2
            have hbx2 : Blk w5 g 29 #[.bool true, .slice a1 n1 c1, .slice a2 n2 c2, .slice a3 n3 c3, .slice a4 n4 c4] := (hg2.block g (Array.getElem?_eq_some_iff.1 HBx.out).1 (fun e => own_blk HLo.out HBx.out (by decide) g e.symm rfl)).trans HBx.out
            have hb2 : Below wB.heap.size wB w5 := HBw.out.drew.grown hg2 HBw.out.size (fun x hx => (HLo.out.lt x hx).1)
            have hS2 : w5.cell? ⟨g, 3, none⟩ = some (.slice a3 n3 c3) ∧ w5.cell? ⟨g, 4, none⟩ = some (.slice a4 n4 c4) := ⟨(hbx2.cell.1 3).trans rfl, (hbx2.cell.1 4).trans rfl⟩
            clear hS hg2 hm2
            refine hK.out _ _ ⟨hS2, ?_⟩
            clear hK K
            simp only [Act.put, List.setIfInBounds_toArray]
            refine wpAnyT_one 7 (by kernel_rfl) (by decide) ?_
            refine wpOp_at rfl rfl (fun K hK => ?_)
            refine wp_sla _ _ (by rfl) wB.heap.size (r1, r2, r3) _ (by rfl) hr2.own ((a4, n4, c4)) (q.pb) (by rfl) (HPr.out.pb.keep hb2) (by have := HLe.out; omega) hb2.size ?_
            intro sr2 w6 hr3 hg3 hm3
            have hl3 : OwnS w6 wB.heap.size sl2 _ := hl2.kept hg3 (ne_sym hr2.ne)
            have hf3 : OwnF w6 wB.heap.size (sv sl2).ownBlock sr2 _ := ⟨hr3, by
              rcases hm3 with e | ⟨x, e, hx⟩
              · rw [e]; exact hr2.ne
              · rw [e]
                refine .inr fun e2 => ?_
                have := (hl2.lt x e2.symm).2
                omega⟩
            have hbx3 : Blk w6 g 29 #[.bool true, .slice a1 n1 c1, .slice a2 n2 c2, .slice a3 n3 c3, .slice a4 n4 c4] := (hg3.block g (Array.getElem?_eq_some_iff.1 hbx2).1 (fun e => own_blk hr2.own hbx2 (by decide) g e.symm rfl)).trans hbx2
            have hb3 : Below wB.heap.size wB w6 := hb2.grown hg3 hb2.size (fun x hx => (hr2.own.lt x hx).1)
            have hS3 : w6.cell? ⟨g, 3, none⟩ = some (.slice a3 n3 c3) ∧ w6.cell? ⟨g, 4, none⟩ = some (.slice a4 n4 c4) := ⟨(hbx3.cell.1 3).trans rfl, (hbx3.cell.1 4).trans rfl⟩
            have HL3 := Lib.hid hl3
            have HF3 := Lib.hid hf3
            have HB3' := Lib.hid hb3
            rw [← HFl.out.1] at HL3
            rw [← HFl.out.2] at HF3
            clear hl2 hr2 hbx2 hb2 hS2 hr3 hg3 hm3 hl3 hf3 hbx3 hb3
            refine hK.out _ _ ⟨hS3, ?_⟩
            clear hK K
            simp only [Act.put]
            refine wpAnyT_take 99 8 (v := ?_) (by kernel_rfl) rfl (by kernel_rfl) (fun _ _ _ h => h) (Or.inl ⟨by rfl, fun W hW => ?_⟩) hS3 ?_
            rotate_left
            focus ((try dsimp only at hW); go_simp; try with_reducible rfl)
            refine ⟨by kernel_rfl, ?_⟩
            simp only [List.drop_succ_cons, List.drop_zero]
            clear hS3
            obtain ⟨y1, y2, y3⟩ := sl2
            obtain ⟨z1, z2, z3⟩ := sr2
            go_wp2_with fail
            exact ⟨⟨j + 1, (y1, y2, y3), (z1, z2, z3), rfl, rfl, by go_num, Lib.hid hlt, HB3', HL3, HF3⟩, by simp [intOf]; omega⟩
          | false =>
            have hcf : ¬ q.conf = true := by rw [← HCf.out]; simp
            have HL1 := Lib.hid (show lft q = q.ln from if_neg hcf)
            have HL2 := Lib.hid (show rgt q = q.ln from if_neg hcf)
            rw [HL1.out, HL2.out] at HFl
            clear HL1 HL2
            go_upto_region 22 with fail
            have hS : w4.drew.cell? ⟨g, 1, none⟩ = some (.slice a1 n1 c1) ∧ w4.drew.cell? ⟨g, 1, none⟩ = some (.slice a1 n1 c1) := ⟨(HBx.out.cell.1 1).trans rfl, (HBx.out.cell.1 1).trans rfl⟩
            refine wp_region_tail 9 (fun W => W.cell? ⟨g, 1, none⟩ = some (.slice a1 n1 c1) ∧ W.cell? ⟨g, 1, none⟩ = some (.slice a1 n1 c1)) (by kernel_rfl) (by decide) ?_
            refine wpAnyT_take 99 0 (v := ?_) (by kernel_rfl) rfl (by kernel_rfl) (fun _ _ _ h => h) (Or.inl ⟨by rfl, fun W hW => ?_⟩) (by with_reducible assumption) ?_
            rotate_left
            focus ((try dsimp only at hW); go_simp; try with_reducible rfl)
            refine wpAnyT_take 99 1 (v := ?_) (by kernel_rfl) rfl (by kernel_rfl) (fun _ _ _ h => h) (Or.inl ⟨by rfl, fun W hW => ?_⟩) (by with_reducible assumption) ?_
            rotate_left
            focus ((try dsimp only at hW); go_simp; try with_reducible rfl)
            refine wpAnyT_take 99 2 (v := ?_) (by kernel_rfl) rfl (by kernel_rfl) (fun _ _ _ h => h) (Or.inl ⟨by rfl, fun W hW => ?_⟩) (by with_reducible assumption) ?_
            rotate_left
            focus ((try dsimp only at hW); go_simp; try with_reducible rfl)
            refine wpAnyT_take 99 4 (v := ?_) (by kernel_rfl) rfl (by kernel_rfl) (fun _ _ _ h => h) (Or.inl ⟨by rfl, fun W hW => ?_⟩) (by with_reducible assumption) ?_
            rotate_left
            focus ((try dsimp only at hW); go_simp; try with_reducible rfl)
            refine wpAnyT_take 99 5 (v := ?_) (by kernel_rfl) rfl (by kernel_rfl) (fun _ _ _ h => h) (Or.inl ⟨by rfl, fun W hW => ?_⟩) (by with_reducible assumption) ?_
            rotate_left
            focus ((try dsimp only at hW); go_simp; try with_reducible rfl)
            refine wpAnyT_take 99 6 (v := ?_) (by kernel_rfl) rfl (by kernel_rfl) (fun _ _ _ h => h) (Or.inl ⟨by rfl, fun W hW => ?_⟩) (by with_reducible assumption) ?_
            rotate_left
            focus ((try dsimp only at hW); go_simp; try with_reducible rfl)
            simp only [Act.put, List.getElem_toArray, List.getElem_cons_zero, List.getElem_cons_succ, List.setIfInBounds_toArray, List.set_cons_zero, List.set_cons_succ]
            refine wpAnyT_one 3 (by kernel_rfl) (by decide) ?_
            refine wpOp_at rfl rfl (fun K hK => ?_)
            refine wp_sla _ _ (by rfl) wB.heap.size (l1, l2, l3) _ (by rfl) (own_keep HLo.out (Below.refl _ _).drew) ((a1, n1, c1)) (q.ln) (by rfl) (HPr.out.ln.keep HBw.out.drew) (by have := HLe.out; omega) HBw.out.size ?_
            intro sl2 w5 hl2 hg2 hm2
            have hr2 : OwnF w5 wB.heap.size (sv sl2).ownBlock (r1, r2, r3) _ := (HRo.out.elsew (Elsewhere.of_below (Below.refl _ _).drew)).both hg2 hm2
            have hbx2 : Blk w5 g 29 #[.bool false, .slice a1 n1 c1, .slice a2 n2 c2, .slice a3 n3 c3, .slice a4 n4 c4] := (hg2.block g (Array.getElem?_eq_some_iff.1 HBx.out).1 (fun e => own_blk HLo.out HBx.out (by decide) g e.symm rfl)).trans HBx.out
            have hb2 : Below wB.heap.size wB w5 := HBw.out.drew.grown hg2 HBw.out.size (fun x hx => (HLo.out.lt x hx).1)
            have hS2 : w5.cell? ⟨g, 1, none⟩ = some (.slice a1 n1 c1) ∧ w5.cell? ⟨g, 1, none⟩ = some (.slice a1 n1 c1) := ⟨(hbx2.cell.1 1).trans rfl, (hbx2.cell.1 1).trans rfl⟩
            clear hS hg2 hm2
            refine hK.out _ _ ⟨hS2, ?_⟩
            clear hK K
            simp only [Act.put, List.setIfInBounds_toArray]
            refine wpAnyT_one 7 (by kernel_rfl) (by decide) ?_
            refine wpOp_at rfl rfl (fun K hK => ?_)
            refine wp_sla _ _ (by rfl) wB.heap.size (r1, r2, r3) _ (by rfl) hr2.own ((a1, n1, c1)) (q.ln) (by rfl) (HPr.out.ln.keep hb2) (by have := HLe.out; omega) hb2.size ?_
            intro sr2 w6 hr3 hg3 hm3
            have hl3 : OwnS w6 wB.heap.size sl2 _ := hl2.kept hg3 (ne_sym hr2.ne)
            have hf3 : OwnF w6 wB.heap.size (sv sl2).ownBlock sr2 _ := ⟨hr3, by
              rcases hm3 with e | ⟨x, e, hx⟩
              · rw [e]; exact hr2.ne
              · rw [e]
                refine .inr fun e2 => ?_
                have := (hl2.lt x e2.symm).2
                omega⟩
            have hbx3 : Blk w6 g 29 #[.bool false, .slice a1 n1 c1, .slice a2 n2 c2, .slice a3 n3 c3, .slice a4 n4 c4] := (hg3.block g (Array.getElem?_eq_some_iff.1 hbx2).1 (fun e => own_blk hr2.own hbx2 (by decide) g e.symm rfl)).trans hbx2
            have hb3 : Below wB.heap.size wB w6 := hb2.grown hg3 hb2.size (fun x hx => (hr2.own.lt x hx).1)
            have hS3 : w6.cell? ⟨g, 1, none⟩ = some (.slice a1 n1 c1) ∧ w6.cell? ⟨g, 1, none⟩ = some (.slice a1 n1 c1) := ⟨(hbx3.cell.1 1).trans rfl, (hbx3.cell.1 1).trans rfl⟩
            have HL3 := Lib.hid hl3
            have HF3 := Lib.hid hf3
            have HB3' := Lib.hid hb3
            rw [← HFl.out.1] at HL3
            rw [← HFl.out.2] at HF3
            clear hl2 hr2 hbx2 hb2 hS2 hr3 hg3 hm3 hl3 hf3 hbx3 hb3
            refine hK.out _ _ ⟨hS3, ?_⟩
            clear hK K
            simp only [Act.put]
            refine wpAnyT_take 99 8 (v := ?_) (by kernel_rfl) rfl (by kernel_rfl) (fun _ _ _ h => h) (Or.inl ⟨by rfl, fun W hW => ?_⟩) hS3 ?_
            rotate_left
            focus ((try dsimp only at hW); go_simp; try with_reducible rfl)
            refine ⟨by kernel_rfl, ?_⟩
            simp only [List.drop_succ_cons, List.drop_zero]
            clear hS3
            obtain ⟨y1, y2, y3⟩ := sl2
            obtain ⟨z1, z2, z3⟩ := sr2
            go_wp2_with fail
            exact ⟨⟨j + 1, (y1, y2, y3), (z1, z2, z3), rfl, rfl, by go_num, Lib.hid hlt, HB3', HL3, HF3⟩, by simp [intOf]; omega⟩
        · have hnz2 : ¬ (j : Int) < (i : Int) := by omega
          obtain rfl : j = i := by have := HJ.out; omega
          have htk : Q.take j = Q := List.take_of_length_le (by have := HK.out; omega)
          rw [htk] at HLy HRy
          have HB5 := Lib.hid (HB4.out.trans (HBy.out.mono HB4.out.size))
          have HP1e := Lib.hid (HP1d.out.keep HBy.out)
          have HTl := Lib.hid (lft_tot Q)
          clear hlt htk HBy
          go_wp2_with fail
          refine (merge_any base a base v0 va v0 wr (HS.out.1.keep HB5.out) (HS.out.2.1.keep HB5.out) (HS.out.1.keep HB5.out) ⟨HBig.out.1, HBig.out.2.1, HBig.out.1⟩).mono ?_
          rintro e w6 ⟨v3, ne, rfl, hne, hp, hb6⟩
          obtain rfl : ne = 0 := hne.2 ⟨HGd.out.1, HGd.out.2.1, HGd.out.1⟩
          have hp3 := (hp rfl).1
          rw [mergeL_base] at hp3
          have HB6 := Lib.hid (HB5.out.trans (hb6.mono HB5.out.size))
          have HP1f := Lib.hid (HP1e.out.keep hb6)
          have HP3 := Lib.hid hp3
          have HL6 := Lib.hid (own_keep HLy.out hb6)
          have HR6 := Lib.hid (HRy.out.elsew (Elsewhere.of_below hb6))
          clear hne hp hb6 hp3 HP1e HLy HRy
          go_wp2_with fail
          refine (merge_any base a a v0 va va w6 (HS.out.1.keep HB6.out) (HS.out.2.1.keep HB6.out) (HS.out.2.1.keep HB6.out) ⟨HBig.out.1, HBig.out.2.1, HBig.out.2.1⟩).mono ?_
          rintro e w7 ⟨v4, ne, rfl, hne, hp, hb7⟩
          obtain rfl : ne = 0 := hne.2 ⟨HGd.out.1, HGd.out.2.1, HGd.out.2.1⟩
          have hp4 := (hp rfl).1
          rw [mergeL_self] at hp4
          have HB7 := Lib.hid (HB6.out.trans (hb7.mono HB6.out.size))
          have HP1g := Lib.hid (HP1f.out.keep hb7)
          have HP3b := Lib.hid (HP3.out.keep hb7)
          have HP4 := Lib.hid hp4
          have HL7 := Lib.hid (own_keep HL6.out hb7)
          have HR7 := Lib.hid (HR6.out.elsew (Elsewhere.of_below hb7))
          clear hne hp hb7 hp4 HP1f HP3 HL6 HR6
          go_wp2_with fail
          refine (plain_any a v3 va w7 HP3b.out (HS.out.2.1.keep HB7.out) HBig.out.2.1).mono ?_
          rintro e w8 ⟨rfl, hb8⟩
          have HB8 := Lib.hid (HB7.out.trans (hb8.mono HB7.out.size))
          have HP1h := Lib.hid (HP1g.out.keep hb8)
          have HP4b := Lib.hid (HP4.out.keep hb8)
          have HL8 := Lib.hid (own_keep HL7.out hb8)
          have HR8 := Lib.hid (HR7.out.elsew (Elsewhere.of_below hb8))
          clear hb8 HP1g HP4 HL7 HR7
          go_wp2_with fail
          refine (plain_any a v4 va w8 HP4b.out (HS.out.2.1.keep HB8.out) HBig.out.2.1).mono ?_
          rintro e w9 ⟨rfl, hb9⟩
          have HB9 := Lib.hid (HB8.out.trans (hb9.mono HB8.out.size))
          have HP1i := Lib.hid (HP1h.out.keep hb9)
          have HL9 := Lib.hid (own_keep HL8.out hb9)
          have HR9 := Lib.hid (HR8.out.elsew (Elsewhere.of_below hb9))
          clear hb9 HP1h HL8 HR8
          have HCf := Lib.hid (anyConf_any Q _ w9 HP1i.out (by have := HT1.out.2; omega))
          go_wp2_with fail
          refine HCf.out.mono ?_
          rintro e w10 ⟨f, rfl, hfc, hb10⟩
          have HB10 := Lib.hid (HB9.out.trans (hb10.mono HB9.out.size))
          cases f with
          | true =>
            clear hfc hb10
            go_wp2_with fail
            go_ret
            exact ⟨rfl, HB10.out⟩
          | false =>
            have hno : ¬ ∃ q ∈ Q, q.conf = true := fun h => by have := hfc.2 h; cases this
            have hEq := equal_any (Q.flatMap lft) (Q.flatMap rgt) _ _ w10 ((SL.of_own HL9.out).keep hb10) ((SL.of_own HR9.out.own).keep hb10) (by have := HTl.out; have := HT1.out; omega)
            rw [decide_eq_true (lft_rgt hno)] at hEq
            have HEq := Lib.hid hEq
            clear hfc hb10 hno hEq
            go_wp2_with fail
            refine HEq.out.mono ?_
            rintro e w11 ⟨rfl, hb11⟩
            have HB11 := Lib.hid (HB10.out.trans (hb11.mono HB10.out.size))
            clear hb11
            go_wp2_with fail
            go_ret
            exact ⟨rfl, HB11.out⟩
end Go.Proofs.YtpnnojepbmpfiaaDoor
