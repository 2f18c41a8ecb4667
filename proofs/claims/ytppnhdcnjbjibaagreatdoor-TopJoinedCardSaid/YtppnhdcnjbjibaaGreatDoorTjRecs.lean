/- TopJoined: the records of a text of lines in order; groups of records; the join's order. -/
import Derived.Test.YtppnhdcnjbjibaaGreatDoorTjRec
import Derived.Test.YtppnhdcnjbjibaaGreatDoorTjSort
namespace Go.Proofs.YtppnhdcnjbjibaaGreatDoor
open Go.RowKit

/-- the rows of records -/
def rowsP (P : List RP) : List R3 := P.map (·.1)
set_option maxRecDepth 100000 in
set_option maxHeartbeats 3200000 in
theorem sorted_any (P : List RP) (v : Value) (w : World) (hv : RV w v P) (hn : P.length ≤ 1000) (hup : ∀ j (h : j + 1 < P.length), Op.bytesLess (bl P[j + 1].1.1) (bl P[j].1.1) = false) :
    Calls Tryz.prog 59 #[v, .func (.func 60) #[] #[]] w fun e w' => e = .returned (.bool true) ∧ Below w.heap.size w w' := by
  have mixed : Tryz.prog.follows .mixedOrders = true := by kernel_rfl
  have HV := Lib.hid hv
  have HUP := Lib.hid hup
  have eg := enters_of Tryz.func60 (by kernel_rfl) rfl
  obtain ⟨A, c, rfl⟩ := hv.form
  have hcap := hv.cap
  obtain ⟨n, hnl⟩ : ∃ n, P.length = n := ⟨_, rfl⟩
  rw [hnl] at HV hn hcap ⊢
  have HNL := Lib.hid hnl
  have hn1 : IntKind.i64.wrap ((n : Int) - 1) = (n : Int) - 1 := IntWalk.i64_in _ (by omega)
  clear hv hup hnl
  go_enter Tryz.func59, Tryz.ntmps59
  go_wp2_with fail
  go_loopw [5] (fun s5 wr => ∃ z : Int, s5 = .int .i64 z ∧ z ≤ (n : Int) - 1 ∧ -1 ≤ z ∧ Hid (Below w.heap.size w wr)) (fun s5 _ => (intOf s5).toNat)
  case atStart => exact ⟨_, rfl, by omega, by omega, Lib.hid (Below.refl _ _)⟩
  case round =>
    obtain ⟨z, rfl, hz1, hz2, HB⟩ := hrel
    by_cases hz : 0 < z
    · obtain ⟨k, rfl⟩ : ∃ k : Nat, z = (k : Int) := ⟨z.toNat, by omega⟩
      obtain ⟨j, hj⟩ : ∃ j : Nat, k = j + 1 := ⟨k - 1, by omega⟩
      have hkj : IntKind.i64.wrap ((k : Int) - 1) = (j : Int) := by rw [IntWalk.i64_in _ (by omega)]; omega
      have hkn : (k : Int) < (n : Int) := by omega
      have hjn : (j : Int) < (n : Int) := by omega
      have hk0 : (0 : Int) ≤ (k : Int) := by omega
      have hj0 : (0 : Int) ≤ (j : Int) := by omega
      have HK : Hid (k < P.length) := Lib.hid (by rw [HNL.out]; omega)
      have HJ : Hid (j < P.length) := Lib.hid (by rw [HNL.out]; omega)
      obtain ⟨b, off, c', e', hb, _, _⟩ := (HV.out.keep HB.out).at k HK.out
      injection e' with e1 e2 e3
      subst e1
      have HAT : Hid (∀ p : BelowBy wr, (p.W.cell? ⟨b, off + k * 2, none⟩ = some (fldV P[k].2) ∧ p.W.cell? ⟨b, off + k * 2 + 1, none⟩ = some (.string P[k].1.1)) ∧ p.W.cell? ⟨b, off + j * 2, none⟩ = some (fldV P[j].2) ∧ p.W.cell? ⟨b, off + j * 2 + 1, none⟩ = some (.string P[j].1.1)) := Lib.hid (fun p => by
        have hv := (HV.out.keep HB.out).keep p.h
        obtain ⟨b1, o1, c1, f1, _, g1, g2⟩ := hv.at k HK.out
        obtain ⟨b2, o2, c2, f2, _, g3, g4⟩ := hv.at j HJ.out
        injection f1 with f1 _ _
        injection f1 with f1
        injection f1 with f1 f1o _
        injection f2 with f2 _ _
        injection f2 with f2
        injection f2 with f2 f2o _
        subst f1 f1o f2 f2o
        exact ⟨⟨g1, g2⟩, g3, g4⟩)
      have k0 := fun p : BelowBy wr => (HAT.out p).1.1
      have k1 := fun p : BelowBy wr => (HAT.out p).1.2
      have j0 := fun p : BelowBy wr => (HAT.out p).2.1
      have j1 := fun p : BelowBy wr => (HAT.out p).2.2
      unfold fldV at k0 j0
      have hcb : Lib.compareBytes (bl P[k].1.1) (bl P[j].1.1) < 0 → False := fun h => by
        have h1 := (cb_neg _ _).1 h
        subst hj
        exact absurd (h1.symm.trans (HUP.out j HK.out)) (by decide)
      have HCG := Lib.hid (fun W => recCmp_any P[k] P[j] W)
      unfold fldV at HCG
      obtain ⟨cz, hcz⟩ : ∃ cz, cz = Lib.compareBytes (bl P[k].1.1) (bl P[j].1.1) := ⟨_, rfl⟩
      rw [← hcz] at HCG hcb
      have hcn : ¬ cz < 0 := fun h => hcb h
      generalize P[k].1.1 = sk at *
      generalize P[k].2 = fk at *
      generalize P[j].1.1 = sj at *
      generalize P[j].2 = fj at *
      have HJK := Lib.hid hj
      have e13 := e3
      clear e2 e3 e13 HAT hcb hcz hb hj hz1 hz2 HUP HK HJ
      go_upto_region 4 with fail
      refine wp_region_quiet_below (by assumption) (by kernel_rfl) ?_
      repeat (quiet_step (first | (go_at_call 60; refine calls_below_of _ (HCG.out _))))
      refine wpQuiet_nil ?_
      rintro wz ⟨⟨wy, hbq⟩, hwz⟩
      replace hwz : wz = wy := hwz
      subst hwz
      try dsimp only
      have HDz := Lib.hid (HB.out.trans (hbq.mono HB.out.size))
      clear hbq k0 k1 j0 j1
      go_wp2_with fail
      have hjk := HJK.out
      exact ⟨⟨(j : Int), by simp, by omega, by omega, HDz⟩, by simp [intOf]; omega⟩
    · go_wp2_with fail
      go_ret
      exact ⟨rfl, HB.out⟩

theorem rows_at {P : List RP} {k : Nat} (h : k < P.length) : P[k] ∈ P := List.getElem_mem h
theorem keys_up {P : List RP} (hR : ∀ r ∈ rowsP P, okR r) (h : KeysUp (rowsP P)) (j : Nat) (hj : j + 1 < P.length) : Op.bytesLess (bl P[j + 1].1.1) (bl P[j].1.1) = false := by
  have h1 := List.pairwise_iff_getElem.1 h j (j + 1) (by simp [rowsP]; omega) (by simp [rowsP]; omega) (by omega)
  simp only [rowsP, List.getElem_map] at h1
  have s1 : (bl P[j].1.1).length ≤ 200 := by
    have := (hR P[j].1 (List.mem_map.2 ⟨_, List.getElem_mem (by omega), rfl⟩)).1.1
    rw [bl_size]; omega
  have s2 : (bl P[j + 1].1.1).length ≤ 200 := by
    have := (hR P[j + 1].1 (List.mem_map.2 ⟨_, List.getElem_mem hj, rfl⟩)).1.1
    rw [bl_size]; omega
  cases hb : Op.bytesLess (bl P[j + 1].1.1) (bl P[j].1.1)
  · rfl
  · have := (num_less 200 _ _ s2 s1).2 hb
    omega
set_option maxHeartbeats 1600000 in
theorem parts_line (r : R3) (h : okR r) (w : World) (hx : MX w) :
    Calls Tryz.prog 58 #[.string (ln r), .string ⟨#[44]⟩] w fun e w' => e = .returned (fldV w.heap.size) ∧ w' = w.alloc (.cells #[.string r.1, .string r.2.1, .string r.2.2] 9) := by
  have HS := Lib.hid (split_line r h w hx)
  generalize ln r = lr at *
  unfold fldV
  go_enter Tryz.func58, Tryz.ntmps58
  go_wp2_with fail
  refine HS.out.mono ?_
  rintro e w1 ⟨rfl, hw⟩
  go_wp2_with fail
  go_ret
  exact ⟨rfl, by first | rfl | exact hw⟩

set_option maxRecDepth 100000 in
set_option maxHeartbeats 3200000 in
theorem records_any (Q : List R3) (hQ : ∀ r ∈ Q, okR r) (hn : Q.length ≤ 100) (hup : KeysUp Q) (w : World) (hmx : MX w) :
    Calls Tryz.prog 28 #[.string (toB (txtL (Q.map lnL))), .string ⟨#[44]⟩, .int .i64 1] w fun e w' => ∃ v P, e = .returned (.tuple #[v, .bool true]) ∧ rowsP P = Q ∧ RV w' v P ∧ Below w.heap.size w w' := by
  have hok := rows_ok hQ hn
  have HM := Lib.hid hmx
  have hmap : (Q.map lnL).map toB = Q.map ln := by rw [List.map_map]; rfl
  have HLN := Lib.hid (lines_any (toB (txtL (Q.map lnL))) w hmx (by have := hok.size; omega))
  rw [hok.lines, hmap] at HLN
  have HUP := Lib.hid hup
  generalize toB (txtL (Q.map lnL)) = TX at *
  clear hmx hok hmap hup
  go_enter Tryz.func28, Tryz.ntmps28
  go_wp2_with fail
  refine HLN.out.mono ?_
  rintro e wl ⟨v, rfl, hv, hbl⟩
  have HBL := Lib.hid hbl
  obtain ⟨A, c, rfl, hc, h⟩ := hv
  have hlen : (Q.map ln).length = Q.length := List.length_map _
  have HH : Hid (0 < Q.length → ∃ b off, A = some ⟨b, off, none⟩ ∧ b < wl.heap.size ∧ ∀ j (hj : j < Q.length), wl.cell? ⟨b, off + j, none⟩ = some (.string (ln Q[j]))) := Lib.hid (fun h0 => by
    obtain ⟨b, off, h1, h2, h3⟩ := h (by omega)
    exact ⟨b, off, h1, h2, fun j hj => (h3 j (by omega)).trans (by rw [List.getElem_map])⟩)
  rw [hlen]
  clear hbl h hc HLN hlen
  go_wp2_with fail
  go_loopw [8, 15] (fun vo s15 wr => ∃ k : Nat, k ≤ Q.length ∧ s15 = .int .i64 (k : Int) ∧ (∃ P : List RP, Hid (rowsP P = Q.take k) ∧ Hid (RecO wl.heap.size vo P wr)) ∧ Hid (Below wl.heap.size wl wr)) (fun _ s15 _ => Q.length - (intOf s15).toNat)
  case atStart => exact ⟨0, Nat.zero_le _, rfl, ⟨[], Lib.hid rfl, Lib.hid (RecO.nil _ _)⟩, Lib.hid (Below.refl _ _)⟩
  case round =>
    obtain ⟨k, hk, rfl, ⟨P, HP, HO⟩, HBR⟩ := hrel
    by_cases hlt : k < Q.length
    · have hltz : (k : Int) < (Q.length : Int) := by omega
      have hk1 : IntKind.i64.wrap ((k : Int) + 1) = ((k + 1 : Nat) : Int) := IntWalk.i64_in _ (by omega)
      obtain ⟨b, off, rfl, hb, hcell⟩ := HH.out (by omega)
      have hc1 : wr.cell? ⟨b, off + k, none⟩ = some (.string (ln Q[k])) := (HBR.out.cell (p := ⟨b, off + k, none⟩) hb).trans (hcell k hlt)
      have HM1 := Lib.hid (HM.out.keep (HBL.out.trans (HBR.out.mono HBL.out.size)))
      have HNX : Hid (Q.take (k + 1) = Q.take k ++ [Q[k]]) := Lib.hid (List.take_succ_eq_append_getElem hlt)
      have HPT := Lib.hid (parts_line Q[k] (hQ _ (List.getElem_mem hlt)) wr HM1.out)
      obtain ⟨r, hr⟩ : ∃ r, r = Q[k] := ⟨_, rfl⟩
      rw [← hr] at hc1 HNX HPT
      obtain ⟨lr, hlr⟩ : ∃ lr, lr = ln r := ⟨_, rfl⟩
      rw [← hlr] at hc1 HPT
      have hpl : P.length ≤ 100 := by
        have := congrArg List.length HP.out
        rw [List.length_take] at this
        simp only [rowsP, List.length_map] at this
        omega
      obtain ⟨AO, cO, rfl⟩ := HO.out.form
      clear hcell hr hlr
      go_wp2_with fail
      refine HPT.out.mono ?_
      rintro e w2 ⟨rfl, hw2⟩
      obtain ⟨fb, hfb⟩ : ∃ fb, fb = wr.heap.size := ⟨_, rfl⟩
      rw [← hfb]
      have HF2 : Hid (FieldsAt w2 (r, fb)) := Lib.hid (by rw [hw2, hfb]; exact heap_alloc_new wr _)
      have HB2 : Hid (Below wr.heap.size wr w2) := Lib.hid (by rw [hw2]; exact (Below.refl _ wr).alloc (Nat.le_refl _) _)
      clear hw2 hfb hc1 HPT
      have HO2 := Lib.hid (HO.out.keep HB2.out)
      have HBR2 := Lib.hid (HBR.out.trans (HB2.out.mono HBR.out.size))
      unfold fldV
      go_upto_region 6 with fail
      obtain ⟨x, hx⟩ : ∃ x, x = w2.heap.size := ⟨_, rfl⟩
      obtain ⟨W3, hW3⟩ : ∃ W3, W3 = w2.alloc (.cells #[.slice (some ⟨fb, 0, none⟩) 3 3, .string ⟨#[]⟩] 74) := ⟨_, rfl⟩
      have hx3 : W3.heap[x]? = some (.cells #[.slice (some ⟨fb, 0, none⟩) 3 3, .string ⟨#[]⟩] 74 (0, 0)) := by rw [hW3, hx]; exact heap_alloc_new w2 _
      have HB3 : Hid (Below w2.heap.size w2 W3) := Lib.hid (by rw [hW3]; exact (Below.refl _ w2).alloc (Nat.le_refl _) _)
      have HXL : Hid (w2.heap.size ≤ x) := Lib.hid (by omega)
      rw [← hx, ← hW3]
      have x0 : W3.cell? ⟨x, 0, none⟩ = some (.slice (some ⟨fb, 0, none⟩) 3 3) := by simp [World.cell?, hx3]
      have x1 : W3.cell? ⟨x, 1, none⟩ = some (.string ⟨#[]⟩) := by simp [World.cell?, hx3]
      have z1 : W3.frozen? ⟨x, 1, none⟩ = false := by simp [World.frozen?, hx3]
      have hf3 := HF2.out.keep HB3.out
      have hf0 : W3.cell? ⟨fb, 0, none⟩ = some (.string r.1) := by unfold FieldsAt at hf3; simp [World.cell?, hf3]
      have HX3 := Lib.hid hx3
      clear hx hW3 hf3 hx3
      go_upto_region 8 with fail
      obtain ⟨W4, hW4⟩ : ∃ W4, W4 = W3.setCell ⟨x, 1, none⟩ (.string r.1) := ⟨_, rfl⟩
      have HB4 : Hid (Below w2.heap.size w2 W4) := Lib.hid (by rw [hW4]; exact HB3.out.setCell HXL.out _)
      have hx4 : W4.heap[x]? = some (.cells #[.slice (some ⟨fb, 0, none⟩) 3 3, .string r.1] 74 (0, 0)) := by
        rw [hW4, heap_setCell_same _ _ _ _ _ _ HX3.out]
        rfl
      rw [← hW4]
      have y0 : W4.cell? ⟨x, 0, none⟩ = some (.slice (some ⟨fb, 0, none⟩) 3 3) := by simp [World.cell?, hx4]
      have y1 : W4.cell? ⟨x, 1, none⟩ = some (.string r.1) := by simp [World.cell?, hx4]
      have HO4 := Lib.hid (HO2.out.keep HB4.out)
      have HF4 := Lib.hid (HF2.out.keep HB4.out)
      have HBR4 := Lib.hid (HBR2.out.trans (HB4.out.mono HBR2.out.size))
      clear hW4 hx4 x0 x1 z1 hf0
      go_wp2_with (at_builtin; refine app_rec rfl _ _ rfl wl.heap.size _ P HO4.out rfl (r, fb) HF4.out rfl (by omega) HBR4.out.size ?_)
      intro A5 c5 w5 ho5 hb5
      have HO5 := Lib.hid ho5
      have HB5 := Lib.hid (HBR4.out.trans hb5)
      clear ho5 hb5
      go_wp2_with fail
      exact ⟨⟨k + 1, by omega, by simp, ⟨P ++ [(r, fb)], Lib.hid (by rw [HNX.out, ← HP.out]; simp [rowsP]), HO5⟩, HB5⟩, by simp [intOf]; omega⟩
    · obtain rfl : k = Q.length := by omega
      have HPQ : Hid (rowsP P = Q) := Lib.hid (by have := HP.out; rwa [List.take_length] at this)
      have hpl : P.length = Q.length := by
        have := congrArg List.length HPQ.out
        simpa [rowsP] using this
      have HSO := Lib.hid (sorted_any P u8 wr HO.out.rv (by omega) (keys_up (by rw [HPQ.out]; exact hQ) (by rw [HPQ.out]; exact HUP.out)))
      obtain ⟨AO, cO, rfl⟩ := HO.out.form
      have HBZ := Lib.hid (HBL.out.trans (HBR.out.mono HBL.out.size))
      clear hpl
      go_wp2_with fail
      refine HSO.out.mono ?_
      rintro e w3 ⟨rfl, hb3⟩
      have HR3 := Lib.hid (HO.out.rv.keep hb3)
      have HB3 := Lib.hid (HBZ.out.trans (hb3.mono HBZ.out.size))
      clear hb3
      go_wp2_with fail
      exact bodyPost_ret (v := .tuple #[.slice AO P.length cO, .bool true]) (by simp [results, Tryz.results28, go_sem]) rfl ⟨_, P, rfl, HPQ.out, HR3.out, HB3.out⟩
end Go.Proofs.YtppnhdcnjbjibaaGreatDoor
