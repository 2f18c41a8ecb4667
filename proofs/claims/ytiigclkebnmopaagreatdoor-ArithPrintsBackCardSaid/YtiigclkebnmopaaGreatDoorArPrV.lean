/- ArithPrintsBack, the walk: what the law builds, prints and reads. -/
import Derived.Test.YtiigclkebnmopaaGreatDoorArPrEnd
namespace Go.Proofs.YtiigclkebnmopaaGreatDoor
open Go.RowKit Go.Shelf

theorem tb6b : tb 6 ≤ 32000 := by decide
def store4 (w : World) (g k : Nat) (a b c d : Value) : World := (((w.setCell ⟨g, k * 4, none⟩ a).setCell ⟨g, k * 4 + 1, none⟩ b).setCell ⟨g, k * 4 + 2, none⟩ c).setCell ⟨g, k * 4 + 3, none⟩ d
theorem store4_only (w : World) (g k : Nat) (a b c d : Value) : Only g w (store4 w g k a b c d) := ((((Only.refl g w).setCell a).setCell b).setCell c).setCell d
theorem store4_cells {w : World} {g k : Nat} {cs : Array Value} {T : TypeId} (hg : w.heap[g]? = some (.cells cs T (0, 0))) (hs : k * 4 + 3 < cs.size) (a b c d : Value) :
    (∀ j, j < k * 4 → (store4 w g k a b c d).cell? ⟨g, j, none⟩ = w.cell? ⟨g, j, none⟩) ∧ (store4 w g k a b c d).cell? ⟨g, k * 4, none⟩ = some a ∧ (store4 w g k a b c d).cell? ⟨g, k * 4 + 1, none⟩ = some b ∧ (store4 w g k a b c d).cell? ⟨g, k * 4 + 2, none⟩ = some c ∧ (store4 w g k a b c d).cell? ⟨g, k * 4 + 3, none⟩ = some d := by
  have h4 := heap_setCell_same _ _ (k * 4 + 3) _ _ d (heap_setCell_same _ _ (k * 4 + 2) _ _ c (heap_setCell_same _ _ (k * 4 + 1) _ _ b (heap_setCell_same _ _ (k * 4) _ _ a hg)))
  have hc : ∀ j, (store4 w g k a b c d).cell? ⟨g, j, none⟩ = ((((cs.setIfInBounds (k * 4) a).setIfInBounds (k * 4 + 1) b).setIfInBounds (k * 4 + 2) c).setIfInBounds (k * 4 + 3) d)[j]? := fun j => by
    unfold World.cell?
    dsimp only
    rw [show (store4 w g k a b c d).heap[g]? = _ from h4]
    rfl
  refine ⟨fun j hj => ?_, ?_, ?_, ?_, ?_⟩
  · rw [hc]
    have : w.cell? ⟨g, j, none⟩ = cs[j]? := by unfold World.cell?; dsimp only; rw [hg]; rfl
    rw [this]
    simp only [Array.getElem?_setIfInBounds]
    rw [if_neg (by omega), if_neg (by omega), if_neg (by omega), if_neg (by omega)]
  all_goals
    rw [hc]
    simp only [Array.getElem?_setIfInBounds, Array.size_setIfInBounds]
    simp
    try omega
/-- the tree behind the store -/
theorem stored {q g k c : Nat} {w : World} {cs : Array Value} {T : TypeId} {x : Ex} {v0 v1 v2 : Value} (hx : ExV (fun j => q < j) w (.agg #[v0, v1, v2, .slice (some ⟨g, 0, none⟩) (k + 1) c]) x) (hg : w.heap[g]? = some (.cells cs T (0, 0))) (hgq : q < g) (hk : x.args.length = k + 1) (hL : ExL (fun j => q < j ∧ j ≠ g) w g 0 x.args) (hr : (w.cell? ⟨g, k * 4 + 3, none⟩).isSome = true) (op : ByteArray) (m : Int) :
    ExV (fun j => q < j) (store4 w g k (.string op) (.int .i64 m) (.string ⟨#[]⟩) (.slice none 0 0)) (.agg #[v0, v1, v2, .slice (some ⟨g, 0, none⟩) (k + 1) c]) (lastBe x (.mk op.data.toList m [] [])) := by
  have hs : k * 4 + 3 < cs.size := by
    have : w.cell? ⟨g, k * 4 + 3, none⟩ = cs[k * 4 + 3]? := by unfold World.cell?; dsimp only; rw [hg]; rfl
    rw [this] at hr
    by_cases h : k * 4 + 3 < cs.size
    · exact h
    · rw [Array.getElem?_eq_none (by omega)] at hr
      cases hr
  obtain ⟨s0, s1, s2, s3, s4⟩ := store4_cells hg hs (.string op) (.int .i64 m) (.string ⟨#[]⟩) (.slice none 0 0)
  have ho := store4_only w g k (.string op) (.int .i64 m) (.string ⟨#[]⟩) (.slice none 0 0)
  generalize store4 w g k (.string op) (.int .i64 m) (.string ⟨#[]⟩) (.slice none 0 0) = w' at *
  obtain ⟨xo, xn, xm, xl⟩ := x
  have hk2 : xl.length = k + 1 := hk
  have hy : ExV (fun j => q < j ∧ j ≠ g) w' (.agg #[.string op, .int .i64 m, .string ⟨#[]⟩, .slice none 0 0]) (.mk op.data.toList m [] []) := ExV.flat _ _ op.data.toList [] m
  have e4 : 0 + 4 * (xl.length - 1) = k * 4 := by omega
  have hn := exl_last (P := fun j => q < j ∧ j ≠ g) (w := w) (w' := w') (g := g) _ _ _ _ _ (fun j hP hl => ho.block j hl hP.2) ho.size hy xl 0 (fun e => by rw [e] at hk2; cases hk2) hL (fun j _ hj => s0 j (by rw [e4] at hj; exact hj)) (by rw [e4]; exact s1) (by rw [e4]; exact s2) (by rw [e4]; exact s3) (by rw [e4]; exact s4)
  unfold ExV at hx
  obtain ⟨A', c2, hv, hc2, hl⟩ := hx
  simp only [Value.agg.injEq, Array.mk.injEq, List.cons.injEq, Value.slice.injEq, and_true] at hv
  obtain ⟨rfl, rfl, rfl, rfl, _, rfl⟩ := hv
  obtain ⟨g', off', hA, _, hgl, _⟩ := hl (by omega)
  cases hA
  unfold lastBe
  show ExV _ _ _ (.mk xo xn xm (xl.dropLast ++ [.mk op.data.toList m [] []]))
  unfold ExV
  have hlen : (xl.dropLast ++ [Ex.mk op.data.toList m [] []]).length = k + 1 := by simp; omega
  refine ⟨some ⟨g, 0, none⟩, c, by rw [hlen], by rw [hlen]; omega, fun _ => ⟨g, 0, rfl, hgq, Nat.lt_of_lt_of_le hgl ho.size, ExL.keep (P := fun j => q < j ∧ j ≠ g) (Nat.le_refl _) (fun j hP _ => ⟨rfl, hP.1⟩) rfl _ hn⟩⟩

set_option maxRecDepth 100000 in
set_option maxHeartbeats 3200000 in
theorem back_walk (A : Option Addr) (n c : Nat) (op : ByteArray) (m : Int) (w : World) (h : NS w A n c) (hm1 : -9223372036854775808 ≤ m) (hm2 : m ≤ 9223372036854775807) (hp : PX w) (hpw : PW w) :
    Calls Tryz.prog 4 #[.slice A n c, .string op, .int .i64 m] w fun e w' => e = .returned (.bool true) ∧ Below w.heap.size w w' := by
  have HN := Lib.hid h
  have HX := Lib.hid (fun W (hb : Below w.heap.size w W) => And.intro (hp.below hb) (hpw.keep hb))
  clear h hp hpw
  go_enter Tryz.func4, Tryz.ntmps4
  go_wp2_with fail
  refine (landed_any w).mono ?_
  rintro e w1 ⟨rfl, hb1⟩
  have HB1 := Lib.hid hb1
  clear hb1
  go_wp2_with fail
  refine (newDice_any A n c 60 (by decide) (by decide) w1 (HN.out.keep HB1.out)).mono ?_
  rintro e w2 ⟨rfl, hd2, hb2⟩
  have HD2 := Lib.hid hd2
  have HB2 := Lib.hid hb2
  have hl12 := hd2.lt
  clear hd2 hb2
  go_wp2_with fail
  refine (built w1.heap.size (w1.heap.size + 1) 6 (.inr rfl) w2 HD2.out).mono ?_
  rintro e w3 ⟨ox, nx, n3, A3, l3, c3, rfl, _, ho3, hx3⟩
  obtain ⟨x, hx3, hdo, htop⟩ := hx3 w1.heap.size hl12 (Nat.le_refl _)
  obtain ⟨hd1, hd2, hd3⟩ := hdo
  have HB3 := Lib.hid (HB1.out.trans ((below_of_only HB2.out ho3).mono HB1.out.size))
  have h5 := tb6b
  go_upto_region 4 with fail
  have HF4 := Lib.hid (Four.new w3 (.string ox) (.int .i64 n3) (.string nx) (.slice A3 l3 c3))
  have ba := (Below.refl w3.heap.size w3).alloc (Nat.le_refl _) (.cells #[.string ox, .int .i64 n3, .string nx, .slice A3 l3 c3] 25)
  have HB4 := Lib.hid (HB3.out.trans (ba.mono HB3.out.size))
  have HX4 := Lib.hid (hx3.below ba)
  have HBa := Lib.hid ba
  have hl4 : w1.heap.size < w3.heap.size := Nat.lt_of_lt_of_le hl12 ho3.size
  clear ho3 ba
  generalize w3.alloc (.cells #[.string ox, .int .i64 n3, .string nx, .slice A3 l3 c3] 25) = w4 at *
  obtain ⟨c0, c1, c2, c3', cf⟩ := HF4.out.cells
  go_cut [27] (fun s27 wx => ∃ b, s27 = .bool b ∧ (b = true → m ≠ 0 ∧ 0 < l3) ∧ wx = w4)
  case first =>
    go_wp2_with fail
    all_goals rename_i hbit
    · go_meet
      exact ⟨_, rfl, fun hb => ⟨fun h0 => by subst h0; revert hbit; decide, by simpa using hb⟩, rfl⟩
    · go_meet
      exact ⟨false, rfl, fun hb => (by cases hb), rfl⟩
  case rest =>
  obtain ⟨b, rfl, hb, rfl⟩ := hcut
  go_upto_if 27 with fail
  go_cut [] (fun wx => ∃ x', Inv x' ∧ ∃ (o1 q1 : ByteArray) (n1 : Int) (A1 : Option Addr) (l1 k1 : Nat), Four wx w3.heap.size (.string o1) (.int .i64 n1) (.string q1) (.slice A1 l1 k1) ∧ ExV (fun k => w1.heap.size < k) wx (.agg #[.string o1, .int .i64 n1, .string q1, .slice A1 l1 k1]) x' ∧ Below w.heap.size w wx)
  case first =>
    cases b with
    | false =>
      go_wp2_with fail
      go_meet
      exact ⟨x, inv_shaped hd1 (by omega) (by omega), ox, nx, n3, A3, l3, c3, HF4.out, HX4.out, HB4.out⟩
    | true =>
      obtain ⟨hm0, hl0⟩ := hb rfl
      have hlen : l3 = x.args.length := by
        cases x with
        | mk a1 a2 a3 a4 =>
          unfold ExV at hx3
          obtain ⟨A', c', hv, _⟩ := hx3
          simp only [Value.agg.injEq, Array.mk.injEq, List.cons.injEq, Value.slice.injEq] at hv
          exact hv.2.2.2.1.2.1
      have hne : x.args ≠ [] := fun h => by rw [h] at hlen; simp at hlen; omega
      obtain ⟨t0, t1, t2, g, cg, cs, T, hv, hg, hgq, hL⟩ := htop hne
      simp only [Value.agg.injEq, Array.mk.injEq, List.cons.injEq, Value.slice.injEq] at hv
      obtain ⟨rfl, rfl, rfl, ⟨rfl, -, rfl⟩, -⟩ := hv
      have hgl : g < w3.heap.size := (Array.getElem?_eq_some_iff.1 hg).1
      have hg4 := (HBa.out.block g hgl).trans hg
      obtain ⟨k, hk⟩ : ∃ k, x.args.length = k + 1 := ⟨x.args.length - 1, by omega⟩
      have hk4 : k < 4 := by
        obtain ⟨a1, a2, a3, a4⟩ := x
        rcases shaped_cases hd1 with ⟨_, _, _, _, e⟩ | ⟨_, _, e, _⟩ | ⟨_, _, z, e, _, _⟩ | ⟨_, _, _, _, _, ⟨_, z, e⟩ | ⟨_, z, z2, z3, e⟩ | ⟨_, z, z2, e⟩⟩ <;> (subst e; simp [Ex.args] at hk; try omega)
      have hwr : wrap64 (((k + 1 : Nat) : Int) - 1) = (k : Int) := by
        have : (((k + 1 : Nat) : Int) - 1) = (k : Int) := by omega
        rw [this]
        first | (unfold wrap64; omega) | exact wrap64_id (by omega) (by omega)
      have hLw : ExL (fun q => w1.heap.size < q ∧ q ≠ g) wc g 0 x.args := ExL.keep HBa.out.size (fun q hP hl => ⟨HBa.out.block q hl, hP⟩) (HBa.out.block g hgl) _ hL
      have hLk := exl_at (k := k) hLw
      obtain ⟨z, hz⟩ : ∃ z, x.args.drop k = [z] := List.length_eq_one_iff.1 (by simp [hk])
      rw [hz] at hLk
      unfold ExL at hLk
      obtain ⟨⟨u0, u1, u2, u3, r0, r1, r2, r3, _⟩, _⟩ := hLk
      rw [show 0 + 4 * k = k * 4 by omega] at r0 r1 r2 r3
      have hfr : ∀ j, wc.frozen? ⟨g, j, none⟩ = false := fun j => by simp [World.frozen?, hg4]
      rw [hk] at hlen
      have hk0 : ((k : Int)).toNat = k := by simp
      have hkr : (0 : Int) ≤ (k : Int) ∧ (k : Int) < ((k + 1 : Nat) : Int) := by omega
      subst hlen
      have Hk := Lib.hid hk
      have HLw := Lib.hid hLw
      have hr3 : (wc.cell? ⟨g, k * 4 + 3, none⟩).isSome = true := by rw [r3]; rfl
      have HSt := Lib.hid (stored HX4.out hg4 hgq Hk.out HLw.out hr3 op m)
      have HI := Lib.hid (inv_last hd1 (by omega) (by omega) hne op.data.toList m hm0 hm1 hm2)
      have hgw : w.heap.size ≤ g := by have := HB1.out.size; omega
      clear hk hL hx3 htop hLw hr3 hne
      go_wp2_with fail
      go_meet
      have ho := store4_only wc g k (.string op) (.int .i64 m) (.string ⟨#[]⟩) (.slice none 0 0)
      exact ⟨_, HI.out, ox, nx, n3, some ⟨g, 0, none⟩, k + 1, c3, HF4.out.only ho (by omega), HSt.out, below_only HB4.out ho hgw⟩
  case rest =>
  obtain ⟨x', hinv, o1, q1, n1, A1, l1, k1, hf5, hx5, hb5⟩ := hcut
  obtain ⟨t, bd, ht0, htl, hpe, hts⟩ := hinv.pe
  have HB5 := Lib.hid hb5
  have HX5 := Lib.hid hx5
  have HF5 := Lib.hid hf5
  obtain ⟨e0, e1, e2, e3, ef⟩ := hf5.cells
  cases hsh : shaped x' with
  | false =>
    have HR := Lib.hid (fun W (hb : Below wc.heap.size wc W) => rprint_bad _ x' hsh (hinv.rsh _) _ W (hx5.below hb))
    go_wp2_with fail
    refine (HR.out _ (Below.refl _ _)).mono ?_
    rintro e w6 ⟨rfl, hb6⟩
    have hf6 := hf5.keep hb6
    have hx6 := hx5.below hb6
    have hb6' := hb5.trans (hb6.mono hb5.size)
    have hp6 := HX.out w6 hb6'
    clear e0 e1 e2 e3 ef
    obtain ⟨e0, e1, e2, e3, ef⟩ := hf6.cells
    have HW := Lib.hid (wprint_any _ x' t bd _ w6 hx6 hp6.2 hp6.1 hpe ht0 htl hinv.depth hinv.size)
    have HB6 := Lib.hid hb6'
    clear hb6 hb6' hp6 hx6 hf6 HR
    go_wp2_with fail
    refine HW.out.mono ?_
    rintro e w7 ⟨rfl, hb7, _⟩
    have HB7 := Lib.hid (HB6.out.trans (hb7.mono HB6.out.size))
    clear hb7
    rw [pans_not hsh t bd]
    go_wp2_with fail
    go_ret
    exact ⟨rfl, HB7.out⟩
  | true =>
    obtain ⟨rfl, rfl⟩ := hts hsh
    have htx := hinv.text hsh
    have hdp := hinv.depth
    have hsz := hinv.size
    have HR := Lib.hid (rprint_ok _ x' hsh (by omega) hdp _ wc hx5 (HX.out wc hb5).2)
    go_wp2_with fail
    refine HR.out.mono ?_
    rintro e w6 ⟨rfl, hb6⟩
    have hf6 := hf5.keep hb6
    have hx6 := hx5.below hb6
    have hb6' := hb5.trans (hb6.mono hb5.size)
    have hp6 := HX.out w6 hb6'
    clear e0 e1 e2 e3 ef
    obtain ⟨e0, e1, e2, e3, ef⟩ := hf6.cells
    have HW := Lib.hid (wprint_any _ x' (shw x') false _ w6 hx6 hp6.2 hp6.1 hpe ht0 htl hdp hsz)
    have HB6 := Lib.hid hb6'
    have HX6 := Lib.hid hx6
    have HF6 := Lib.hid hf6
    have HAn := Lib.hid (fun h => ans_shaped hsh hdp h)
    have HPs := Lib.hid (fun h => pans_shaped hsh h)
    clear hb6 hb6' hp6 hx6 hf6 HR hpe ht0 hts hinv htx htop hd1 hd2 hx5 hf5 hb5 HB5 HX5 HF5
    have hszt := toB_size (shw x')
    generalize shw x' = T at *
    go_wp2_with fail
    refine HW.out.mono ?_
    rintro e w7 ⟨rfl, hb7, hsf⟩
    have HB7 := Lib.hid (HB6.out.trans (hb7.mono HB6.out.size))
    have HX7 := Lib.hid (HX6.out.below hb7)
    have HF7 := Lib.hid (HF6.out.keep hb7)
    rw [HPs.out hsf]
    clear hb7 hsf HX6 HF6 e0 e1 e2 e3 ef
    by_cases hlen : T.length ≤ 16384
    · have HA := Lib.hid (wArith_any T w7 (by omega) (HX.out w7 HB7.out).1)
      unfold AG at HA
      rw [HAn.out hlen] at HA
      go_wp2_with fail
      refine HA.out.mono ?_
      rintro e w8 ⟨v, rfl, hx8, hb8⟩
      have hx8' := hx8
      obtain ⟨n6, A6, k6, c6, nm6, rfl, hq⟩ := hx8'.form
      have ba := (Below.refl w8.heap.size w8).alloc (Nat.le_refl _) (.cells #[.string (toB x'.op), .int .i64 n6, .string (toB nm6), .slice A6 k6 c6] 25)
      have HB9 := Lib.hid ((HB7.out.trans (hb8.mono HB7.out.size)).trans (ba.mono (Nat.le_trans HB7.out.size hb8.size)))
      have HX9 := Lib.hid ((HX7.out.below hb8).below ba)
      have HF9 := Lib.hid ((HF7.out.keep hb8).keep ba)
      have HY9 := Lib.hid (hx8.below ba)
      have HG9 := Lib.hid (Four.new w8 (.string (toB x'.op)) (.int .i64 n6) (.string (toB nm6)) (.slice A6 k6 c6))
      clear hx8 hx8' hq hb8 ba HX7 HF7
      go_upto_region 13 with fail
      generalize w8.alloc (.cells #[.string (toB x'.op), .int .i64 n6, .string (toB nm6), .slice A6 k6 c6] 25) = w9 at *
      obtain ⟨p0, p1, p2, p3, _⟩ := HF9.out.cells
      obtain ⟨q0, q1, q2, q3, _⟩ := HG9.out.cells
      go_wp2_with fail
      refine (sameE_any _ _ x' hsz _ _ w9 HX9.out HY9.out).mono ?_
      rintro e w10 ⟨rfl, hb10⟩
      have HB10 := Lib.hid (HB9.out.trans (hb10.mono HB9.out.size))
      clear hb10
      go_wp2_with fail
      go_ret
      exact ⟨rfl, HB10.out⟩
    · go_wp2_with fail
      go_ret
      exact ⟨rfl, HB7.out⟩

end Go.Proofs.YtiigclkebnmopaaGreatDoor
