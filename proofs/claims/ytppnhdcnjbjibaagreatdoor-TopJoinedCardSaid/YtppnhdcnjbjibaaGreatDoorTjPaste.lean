/- TopJoined: columns put side by side. -/
import Derived.Test.YtppnhdcnjbjibaaGreatDoorTjAlt
namespace Go.Proofs.YtppnhdcnjbjibaaGreatDoor
open Go.RowKit

theorem slsInfo : (Tryz.prog.info? 26).map (fun i => (i.zero, i.size, i.bytes)) = some (some (.slice none 0 0), 1, 24) := by kernel_rfl
/-- a column of rows -/
def colS (R : List R3) (i : Nat) : List ByteArray := R.map fun r => fldR r i
theorem colS_len (R : List R3) (i : Nat) : (colS R i).length = R.length := List.length_map _
/-- the columns' lines that were listed -/
def AllL (B : Nat) (R : List R3) (vo : Value) (k : Nat) (w : World) : Prop :=
  ∃ vs : List Value, vs.length = k ∧ w.ownsRow B 26 1 vo k vs ∧ ∀ j (h : j < vs.length), SLs w vs[j] (colS R (j + 1))
theorem AllL.keep {B : Nat} {R : List R3} {vo : Value} {k : Nat} {w w' : World} (h : AllL B R vo k w) (hb : Below w.heap.size w w') : AllL B R vo k w' := by
  obtain ⟨vs, h1, h2, h3⟩ := h
  exact ⟨vs, h1, h2.kept (row := none) ⟨hb.os, hb.tape, hb.output, hb.size, fun k hk _ => hb.block k hk⟩ (by cases vo.ownBlock <;> simp), fun j hj => (h3 j hj).keep hb⟩
theorem AllL.form {B : Nat} {R : List R3} {vo : Value} {k : Nat} {w : World} (h : AllL B R vo k w) : ∃ A c, vo = .slice A k c := by
  obtain ⟨vs, h1, h2, h3⟩ := h
  exact own_form h2
theorem AllL.nil (B : Nat) (R : List R3) (w : World) : AllL B R (.slice none 0 0) 0 w := ⟨[], rfl, World.ownsRow_nil _ _ _ _, fun j hj => absurd hj (by simp)⟩
theorem AllL.at {B : Nat} {R : List R3} {vo : Value} {k : Nat} {w : World} (h : AllL B R vo k w) (j : Nat) (hj : j < k) :
    ∃ b cc A c, vo = .slice (some ⟨b, 0, none⟩) k cc ∧ w.cell? ⟨b, j, none⟩ = some (.slice A R.length c) ∧ SL w (.slice A R.length c) (colS R (j + 1)) := by
  obtain ⟨vs, h1, h2, h3⟩ := h
  subst h1
  obtain ⟨A, c, e, hc⟩ := (h3 j hj).sl
  have hs := (h3 j hj).sl
  rw [e, colS_len] at hs
  rcases h2.2 with ⟨_, h0⟩ | ⟨g, cap, cur, e2, _⟩
  · omega
  · have hcell := h2.cells (g := g) (by rw [e2]; rfl) j vs[j] (by simp [hj])
    rw [WideShapes.add_plain] at hcell
    refine ⟨g, cap, A, c, e2, ?_, hs⟩
    rw [← colS_len R (j + 1), ← e]
    simpa using hcell
theorem app_all {ops : Array Oper} {rest : List Oper} {o : Oper} {a : Act} {Q : Exit → Act → World → Prop} {w : World} (hgd : o.guard = none) (s x : Operand)
    (ho : o.op = .call { callee := .builtin .append, args := #[s, x], argTypes := #[61, 61] })
    (B : Nat) (R : List R3) (v : Value) (k : Nat) (hown : AllL B R v k w) (hs : a.eval s = v) (u : Value) (hu : SLs w u (colS R (k + 1))) (hx : a.eval x = .slice (some ⟨w.heap.size, 0, none⟩) 1 1)
    (hL : k ≤ 20000) (hbase : B ≤ w.heap.size)
    (h : ∀ A c w', AllL B R (.slice A (k + 1) c) (k + 1) w' → Below B w w' → wpList Tryz.prog ops Q rest (a.put o.dst (.slice A (k + 1) c)) w') : wpList Tryz.prog ops Q (o :: rest) a (w.alloc (.cells #[u] 26)) := by
  obtain ⟨i0, hi, hz0, hz1, hz2⟩ := info_parts slsInfo
  obtain ⟨vs, h1, h2, h3⟩ := hown
  have hO : (w.alloc (.cells #[u] 26)).ownsRow B 26 1 v k vs := World.ownsRow.alloc h2 _
  have hu1 : u.oneCell' = true := by obtain ⟨A, c, e, _⟩ := hu; rw [e]; rfl
  refine wpList_append_own _ hgd s x 61 ho B 26 i0 (.slice none 0 0) 1 24 Tryz.underlying61 hi hz0 hz1 hz2 rfl (by decide) v k vs hs hO ⟨w.heap.size, 0, none⟩ 1 1 [u] hx rfl (new_row w [u] 26) (fun u' hu' => by simp at hu'; subst hu'; exact hu1) (by unfold maxLen; omega) (by omega) (by simp; omega) ?_
  intro v' w' g1 g2 _
  obtain ⟨A, c, rfl⟩ := own_form g1
  have kp : ∀ z l, SLs w z l → SLs w' z l := fun z l hz => by
    obtain ⟨A, c, rfl, q1, q2, hq⟩ := hz
    refine ⟨A, c, rfl, q1, q2, fun h0 => ?_⟩
    obtain ⟨b, rfl, hb⟩ := hq h0
    have hlt : b < w.heap.size := (Array.getElem?_eq_some_iff.1 hb).1
    have hb2 := (Below.heap_alloc w (.cells #[u] 26) _ hlt).trans hb
    exact ⟨b, rfl, (g2.block b (by simp; omega) (fun e => Lib.ownBlock_ne hO hb2 (by decide) e.symm)).trans hb2⟩
  refine h A c w' ⟨vs ++ [u], by simp [h1], g1, fun j hj => ?_⟩ (((Below.refl B w).alloc hbase _).grown g2 (by simp; omega) (fun g hg => (World.ownsRow.lt hO g hg).1))
  rw [List.length_append, List.length_cons, List.length_nil] at hj
  by_cases hjk : j < vs.length
  · rw [List.getElem_append_left hjk]
    exact kp _ _ (h3 j hjk)
  · obtain rfl : j = vs.length := by omega
    rw [List.getElem_append_right (Nat.le_refl _)]
    simp only [Nat.sub_self, List.getElem_cons_zero]
    rw [h1]
    exact kp _ _ hu
/-- the columns' texts -/
def colT (R : List R3) (i : Nat) : ByteArray := toB (txtL (R.map fun r => bl (fldR r i)))

set_option maxRecDepth 100000 in
set_option maxHeartbeats 6400000 in
theorem paste_any (R : List R3) (hR : ∀ r ∈ R, okR r) (hn : R.length ≤ 100) (v : Value) (w : World) (hmx : MX w) (hv : SL w v [colT R 1, colT R 2, colT R 3]) :
    Calls Tryz.prog 7 #[v, .string ⟨#[44]⟩, .bool false] w fun e w' => e = .returned (.tuple #[.string (toB (txtL (R.map lnL))), .int .i64 0]) ∧ Below w.heap.size w w' := by
  have HM := Lib.hid hmx
  have hcol : ∀ i, 1 ≤ i → i ≤ 3 → LinesOk (R.map fun r => bl (fldR r i)) := fun i h1 h2 => col_ok hR hn i h1 h2
  have HSZ := Lib.hid (fun W (h : Below w.heap.size w W) => sized_list [colT R 1, colT R 2, colT R 3] v W (hv.keep h) (by simp) (hmx.keep h) (fun s hs => by
    simp only [List.mem_cons, List.not_mem_nil, or_false] at hs
    rcases hs with rfl | rfl | rfl
    · have := (hcol 1 (by omega) (by omega)).size; unfold colT; omega
    · have := (hcol 2 (by omega) (by omega)).size; unfold colT; omega
    · have := (hcol 3 (by omega) (by omega)).size; unfold colT; omega) (by
    simp only [List.any_cons, List.any_nil, Bool.or_false, Bool.or_eq_false_iff]
    exact ⟨(hcol 1 (by omega) (by omega)).large, (hcol 2 (by omega) (by omega)).large, (hcol 3 (by omega) (by omega)).large⟩))
  have HLN := Lib.hid (fun i (h1 : 1 ≤ i) (h2 : i ≤ 3) W (h : Below w.heap.size w W) => show Calls Tryz.prog 15 #[.string (colT R i)] W (GaveS W (colS R i)) by
    have e : (R.map fun r => bl (fldR r i)) = (colS R i).map bl := by unfold colS; rw [List.map_map]; rfl
    have := linesS_any (colT R i) W (hmx.keep h) (by have := (hcol i h1 h2).size; unfold colT; omega)
    rw [show linesL (colT R i) = colS R i from by unfold colT; rw [(hcol i h1 h2).lines, e, toBL]] at this
    exact this)
  have HRES := Lib.hid (fun v W (h : SL W v (R.map ln)) => result_any (R.map ln) v W h (by rw [List.length_map]; omega) (fun y hy => by
    obtain ⟨r, hr, rfl⟩ := List.mem_map.1 hy
    have := ln_size (hR r hr)
    omega))
  have hml : (R.map ln).map bl = R.map lnL := by
    rw [List.map_map]
    exact List.map_congr_left fun r _ => bl_toB (lnL r)
  rw [hml] at HRES
  obtain ⟨A, cp, rfl, _, h⟩ := hv
  obtain ⟨g, off, rfl, hg, hcell⟩ := h (by simp)
  have HC : Hid (∀ i, i < 3 → ∀ W, Below w.heap.size w W → W.cell? ⟨g, off + i, none⟩ = some (.string (colT R (i + 1)))) := Lib.hid (fun i hi W hW => (hW.cell (p := ⟨g, off + i, none⟩) hg).trans ((hcell i hi).trans (by
    match i, hi with
    | 0, _ => rfl
    | 1, _ => rfl
    | 2, _ => rfl)))
  have HCN := Lib.hid (fun W => Tryz.strings_Contains_one ⟨#[44]⟩ 10 W)
  generalize toB (txtL (R.map lnL)) = TZ at *
  clear h hcell hg hcol hml hmx
  go_enter Tryz.func7, Tryz.ntmps7
  go_wp2_with fail
  refine (HCN.out _).mono ?_
  rintro e w1 ⟨rfl, rfl⟩
  go_wp2_with fail
  refine (HSZ.out w1 (Below.refl _ _)).mono ?_
  rintro e ws ⟨rfl, hbs⟩
  have HBS := Lib.hid hbs
  clear hbs HSZ HCN
  go_wp2_with fail
  go_loopw [9, 10, 45] (fun va vh s45 wr => ∃ k : Nat, k ≤ 3 ∧ s45 = .int .i64 (k : Int) ∧ (∃ hi : Nat, vh = .int .i64 (hi : Int) ∧ Hid (hi ≤ R.length ∧ (0 < k → hi = R.length))) ∧ Hid (AllL ws.heap.size R va k wr) ∧ Hid (Below ws.heap.size ws wr)) (fun _ _ s45 _ => 3 - (intOf s45).toNat)
  case atStart => exact ⟨0, Nat.zero_le _, rfl, ⟨0, rfl, Lib.hid ⟨Nat.zero_le _, fun h => absurd h (by omega)⟩⟩, Lib.hid (AllL.nil _ _ _), Lib.hid (Below.refl _ _)⟩
  case round =>
    obtain ⟨k, hk, rfl, ⟨hi, rfl, HH⟩, HA, HBR⟩ := hrel
    have HBW := Lib.hid (HBS.out.trans (HBR.out.mono HBS.out.size))
    by_cases hlt : k < 3
    · have hltz : (k : Int) < 3 := by omega
      have hk1 : IntKind.i64.wrap ((k : Int) + 1) = ((k + 1 : Nat) : Int) := IntWalk.i64_in _ (by omega)
      have hc1 := HC.out k hlt wr HBW.out
      have HL := Lib.hid (HLN.out (k + 1) (by omega) (by omega) wr HBW.out)
      obtain ⟨y, hy⟩ : ∃ y, y = colT R (k + 1) := ⟨_, rfl⟩
      rw [← hy] at hc1 HL
      clear hy
      have hmx2 : max (hi : Int) (R.length : Int) = (R.length : Int) := by have := HH.out.1; omega
      obtain ⟨AA, cA, rfl⟩ := HA.out.form
      go_wp2_with fail
      refine HL.out.mono ?_
      rintro e w2 ⟨u, rfl, hu, hb2⟩
      have HU2 := Lib.hid hu
      have HA2 := Lib.hid (HA.out.keep hb2)
      have HBR2 := Lib.hid (HBR.out.trans (hb2.mono HBR.out.size))
      obtain ⟨Au, cu, hue⟩ : ∃ Au cu, u = .slice Au R.length cu := by
        obtain ⟨Au, cu, e, _⟩ := hu
        rw [colS_len] at e
        exact ⟨Au, cu, e⟩
      subst hue
      clear hu hb2 hc1 HA HBR HBW
      go_wp2_with (at_builtin; refine app_all rfl _ _ rfl ws.heap.size R _ k HA2.out rfl _ HU2.out rfl (by omega) HBR2.out.size ?_)
      intro A4 c4 w4 ho4 hb4
      have HA4 := Lib.hid ho4
      have HBR4 := Lib.hid (HBR2.out.trans hb4)
      clear ho4 hb4
      go_wp2_with fail
      exact ⟨⟨k + 1, by omega, by simp, ⟨R.length, by simp, Lib.hid ⟨Nat.le_refl _, fun _ => rfl⟩⟩, HA4, HBR4⟩, by simp [intOf]; omega⟩
    · obtain rfl : k = 3 := by omega
      obtain rfl : hi = R.length := HH.out.2 (by omega)
      obtain ⟨wT, hwT⟩ : ∃ wT, wT = wr := ⟨_, rfl⟩
      subst hwT
      obtain ⟨AA, cA, rfl⟩ := HA.out.form
      clear hk HC HLN HH
      have e3 : ((3 : Nat) : Int) = 3 := rfl
      rw [e3]
      clear e3
      go_wp2_with fail
      go_loopw [14, 77] (fun vo s77 wx => ∃ m : Nat, m ≤ R.length ∧ s77 = .int .i64 (m : Int) ∧ Hid (OwnL wT.heap.size vo ((R.take m).map ln) wx) ∧ Hid (Below wT.heap.size wT wx)) (fun _ s77 _ => R.length - (intOf s77).toNat)
      case atStart => exact ⟨0, Nat.zero_le _, rfl, Lib.hid (OwnL.nil _ _), Lib.hid (Below.refl _ _)⟩
      case round =>
        obtain ⟨m, hm, rfl, HO, HBX⟩ := hrel
        by_cases hml : m < R.length
        · have hmlz : (m : Int) < (R.length : Int) := by omega
          have hm1 : IntKind.i64.wrap ((m : Int) + 1) = ((m + 1 : Nat) : Int) := IntWalk.i64_in _ (by omega)
          have HA1 := Lib.hid (HA.out.keep HBX.out)
          have HNX : Hid ((R.take (m + 1)).map ln = ((R.take m).map ln) ++ [ln R[m]]) := Lib.hid (by rw [List.take_succ_eq_append_getElem hml, List.map_append]; rfl)
          have HLEN : Hid (((R.take m).map ln).length ≤ 100) := Lib.hid (by rw [List.length_map, List.length_take]; omega)
          have HRK := Lib.hid (hR R[m] (List.getElem_mem hml))
          have HCO : Hid (∀ j (h : m < (colS R j).length), (colS R j)[m] = fldR R[m] j) := Lib.hid (fun j h => by simp [colS])
          obtain ⟨r, hr⟩ : ∃ r, r = R[m] := ⟨_, rfl⟩
          rw [← hr] at HNX HRK
          have HCO2 : Hid (∀ j (h : m < (colS R j).length), (colS R j)[m] = fldR r j) := Lib.hid (by rw [hr]; exact HCO.out)
          obtain ⟨LO, hLO⟩ : ∃ LO, LO = (R.take m).map ln := ⟨_, rfl⟩
          rw [← hLO] at HO HNX HLEN
          obtain ⟨wu, hwu⟩ : ∃ wu, wu = wr := ⟨_, rfl⟩
          subst hwu
          obtain ⟨AO, cO, rfl⟩ := HO.out.form
          clear hr hLO HCO
          go_wp2_with fail
          go_loopw [18, 82] (fun vw s82 wx => ∃ q : Nat, q ≤ 3 ∧ s82 = .int .i64 (q : Int) ∧ Hid (OwnL wu.heap.size vw ([r.1, r.2.1, r.2.2].take q) wx) ∧ Hid (Below wu.heap.size wu wx)) (fun _ s82 _ => 3 - (intOf s82).toNat)
          case atStart => exact ⟨0, Nat.zero_le _, rfl, Lib.hid (OwnL.nil _ _), Lib.hid (Below.refl _ _)⟩
          case round =>
            obtain ⟨q, hq, rfl, HW, HBY⟩ := hrel
            obtain ⟨AW, cW, hcw⟩ := HW.out.form
            have hlq : ([r.1, r.2.1, r.2.2].take q).length = q := by rw [List.length_take]; simp; omega
            by_cases hq3 : q < 3
            · have hq3z : (q : Int) < 3 := by omega
              have hq1 : IntKind.i64.wrap ((q : Int) + 1) = ((q + 1 : Nat) : Int) := IntWalk.i64_in _ (by omega)
              obtain ⟨b, cc, Aq, cq, hvo, hcq, hsq⟩ := (HA1.out.keep HBY.out).at q hq3
              injection hvo with hv1 hv2 hv3
              subst hv1
              obtain ⟨Aq', cq', eq', _, hh⟩ := hsq
              injection eq' with e1 e7 e8
              clear e7 e8
              obtain ⟨bq, oq, e2, _, hce⟩ := hh (by rw [colS_len]; omega)
              rw [← e1] at e2
              subst e2
              have hy := hce m (by rw [colS_len]; omega)
              rw [HCO2.out (q + 1) (by rw [colS_len]; omega)] at hy
              have HTK : Hid ([r.1, r.2.1, r.2.2].take (q + 1) = [r.1, r.2.1, r.2.2].take q ++ [fldR r (q + 1)]) := Lib.hid (by
                rw [List.take_succ_eq_append_getElem hq3]
                congr 1
                unfold fldR
                rw [Nat.add_sub_cancel, getD_three _ _ _ q hq3])
              obtain ⟨y, hye⟩ : ∃ y, y = fldR r (q + 1) := ⟨_, rfl⟩
              rw [← hye] at hy HTK
              rw [hlq] at hcw
              obtain ⟨LW, hLW⟩ : ∃ LW, LW = [r.1, r.2.1, r.2.2].take q := ⟨_, rfl⟩
              rw [← hLW] at HW HTK hlq
              have HBY1 := Lib.hid HBY.out
              have HQL := Lib.hid hlq
              subst hcw
              clear hye hLW hce hh e1 hv3 HBY hlq
              go_wp2_with (at_builtin; refine app_one rfl _ _ rfl wu.heap.size _ LW HW.out rfl y rfl (by have := HQL.out; omega) HBY1.out.size ?_)
              intro A4 c4 w4 ho4 hb4 _
              have HW4 := Lib.hid ho4
              have HBY4 := Lib.hid (HBY1.out.trans hb4)
              have HQ4 := Lib.hid (show Value.slice A4 (LW.length + 1) c4 = .slice A4 (q + 1) c4 by rw [HQL.out])
              rw [HQ4.out]
              rw [HQ4.out] at HW4
              clear ho4 hb4
              go_wp2_with fail
              exact ⟨⟨q + 1, by omega, by simp, Lib.hid (by rw [HTK.out]; exact HW4.out), HBY4⟩, by simp [intOf]; omega⟩
            · obtain rfl : q = 3 := by omega
              have HW2 : Hid (OwnL wu.heap.size u18 [r.1, r.2.1, r.2.2] wr) := Lib.hid HW.out
              have hk := HRK.out
              have HAL := Lib.hid (alt_any r.1 r.2.1 r.2.2 (by have := hk.1.1; omega) (by have := hk.2.1.1; omega) (by have := hk.2.2.1; omega) u18 wr HW2.out.sl)
              have HO3 := Lib.hid (HO.out.keep HBY.out)
              have HBX3 := Lib.hid (HBX.out.trans (HBY.out.mono HBX.out.size))
              have hLN := HLEN.out
              rw [hlq] at hcw
              subst hcw
              obtain ⟨y, hy⟩ : ∃ y, y = ln r := ⟨_, rfl⟩
              have hy2 : ln (r.1, r.2.1, r.2.2) = y := hy.symm
              rw [hy2] at HAL
              rw [← hy] at HNX
              clear hy hy2 hk HW HW2 hlq
              go_wp2_with fail
              refine HAL.out.mono ?_
              rintro e w3 ⟨rfl, hb3⟩
              have HO4 := Lib.hid (HO3.out.keep hb3)
              have HBX4 := Lib.hid (HBX3.out.trans (hb3.mono HBX3.out.size))
              clear hb3
              go_wp2_with (at_builtin; refine app_one rfl _ _ rfl wT.heap.size _ LO HO4.out rfl y rfl (by omega) HBX4.out.size ?_)
              intro A4 c4 w4 ho4 hb4 _
              have HW4 := Lib.hid ho4
              have HB4 := Lib.hid (HBX4.out.trans hb4)
              clear ho4 hb4
              go_wp2_with fail
              exact ⟨⟨m + 1, by omega, by simp, Lib.hid (by rw [HNX.out]; exact HW4.out), HB4⟩, by simp [intOf]; omega⟩
        · obtain rfl : m = R.length := by omega
          have HRS := Lib.hid (HRES.out u14 wr (by have := HO.out.sl; rwa [List.take_length] at this))
          have HBZ := Lib.hid (HBW.out.trans (HBX.out.mono HBW.out.size))
          go_wp2_with fail
          refine HRS.out.mono ?_
          rintro e w3 ⟨rfl, hb3⟩
          have HBY := Lib.hid (HBZ.out.trans (hb3.mono HBZ.out.size))
          clear hb3
          go_wp2_with fail
          exact bodyPost_ret (v := .tuple #[.string TZ, .int .i64 0]) (by simp [results, Tryz.results7, go_sem]) rfl ⟨rfl, HBY.out⟩
end Go.Proofs.YtppnhdcnjbjibaaGreatDoor
