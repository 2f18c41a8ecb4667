/- Shell states: do the names of variables rise? -/
import Derived.Test.YtiapondfajmkaaaGreatDoorSvG
namespace Go.Proofs.YtiapondfajmkaaaGreatDoor
open Go.RowKit

theorem vl_at2 {w : World} {A : Option Addr} {c : Nat} {L : List VarV} (h : VL w (.slice A L.length c) L) (i : Nat) (hi : i + 1 < L.length) : ∃ b off s s', A = some ⟨b, off, none⟩ ∧ b < w.heap.size ∧
    (w.cell? ⟨b, off + (i + 1) * 6, none⟩ = some (.string L[i + 1].nm) ∧ w.cell? ⟨b, off + (i + 1) * 6 + 1, none⟩ = some (.string L[i + 1].vl) ∧ w.cell? ⟨b, off + (i + 1) * 6 + 2, none⟩ = some (.bool L[i + 1].il) ∧ w.cell? ⟨b, off + (i + 1) * 6 + 3, none⟩ = some (sv s) ∧ w.cell? ⟨b, off + (i + 1) * 6 + 4, none⟩ = some (.bool L[i + 1].ex) ∧ w.cell? ⟨b, off + (i + 1) * 6 + 5, none⟩ = some (.bool L[i + 1].fx)) ∧
    (w.cell? ⟨b, off + i * 6, none⟩ = some (.string L[i].nm) ∧ w.cell? ⟨b, off + i * 6 + 1, none⟩ = some (.string L[i].vl) ∧ w.cell? ⟨b, off + i * 6 + 2, none⟩ = some (.bool L[i].il) ∧ w.cell? ⟨b, off + i * 6 + 3, none⟩ = some (sv s') ∧ w.cell? ⟨b, off + i * 6 + 4, none⟩ = some (.bool L[i].ex) ∧ w.cell? ⟨b, off + i * 6 + 5, none⟩ = some (.bool L[i].fx)) := by
  obtain ⟨_, _, _, hat⟩ := VL.at h
  obtain ⟨b, off, s, hA, hb, _, q⟩ := hat (i + 1) hi
  obtain ⟨b', off', s', hA', _, _, q'⟩ := hat i (by omega)
  rw [hA] at hA'
  injection hA' with hA'
  injection hA' with e1 e2
  subst e1 e2
  exact ⟨b, off, s, s', hA, hb, q, q'⟩
def RiseP (L : List VarV) (w : World) (e : Ending) (w' : World) : Prop := ∃ f : Bool, e = .returned (.bool f) ∧ (f = true ↔ Rises L) ∧ Below w.heap.size w w'
set_option maxRecDepth 100000 in
set_option maxHeartbeats 3200000 in
theorem risingV_any (L : List VarV) (A : Option Addr) (n c : Nat) (w : World) (hv : VL w (.slice A n c) L) (hn : L.length ≤ 2000) :
    Calls Tryz.prog 36 #[.slice A n c, .func (.func 37) #[] #[]] w (RiseP L w) := by
  obtain ⟨rfl, _, _, _⟩ := VL.at hv
  have HV := Lib.hid hv
  obtain ⟨Q, hQ⟩ : ∃ Q, RiseP L w = Q := ⟨_, rfl⟩
  rw [hQ]
  have HQ := Lib.hid hQ
  clear hv hQ
  go_enter Tryz.func36, Tryz.ntmps36
  go_wp2_with fail
  go_loopw [5] (fun s5 wr => ∃ i : Nat, s5 = .int .i64 ((i + 1 : Nat) : Int) ∧ Hid (i ≤ L.length) ∧ Hid (∀ j (h : j + 1 < L.length), j < i → lessS L[j].nm L[j + 1].nm = true) ∧ Hid (Below w.heap.size w wr)) (fun s5 _ => L.length + 1 - (intOf s5).toNat)
  case atStart => exact ⟨0, rfl, Lib.hid (Nat.zero_le _), Lib.hid (fun j h hj => absurd hj (Nat.not_lt_zero _)), Lib.hid (Below.refl _ _)⟩
  case round =>
    obtain ⟨i, rfl, HI, HR, HB⟩ := hrel
    by_cases hlt : i + 1 < L.length
    · have hltz : ((i + 1 : Nat) : Int) < (L.length : Int) := by omega
      have hltz2 : (i : Int) + 1 < (L.length : Int) := by omega
      have e1 : IntKind.i64.wrap ((i : Int) + 1 - 1) = (i : Int) := by
        rw [show (i : Int) + 1 - 1 = i by omega]
        exact IntWalk.i64_in _ (by omega)
      have e2 : IntKind.i64.wrap (((i + 1 : Nat) : Int) - 1) = (i : Int) := by
        rw [show ((i + 1 : Nat) : Int) - 1 = i by omega]
        exact IntWalk.i64_in _ (by omega)
      have e3 : IntKind.i64.wrap ((i : Int) + 1 + 1) = ((i + 1 + 1 : Nat) : Int) := IntWalk.i64_in _ (by omega)
      have e4 : IntKind.i64.wrap (((i + 1 : Nat) : Int) + 1) = ((i + 1 + 1 : Nat) : Int) := IntWalk.i64_in _ (by omega)
      have hz1 : (0 : Int) ≤ (i : Int) + 1 := by omega
      have e5 : IntKind.i64.wrap (i : Int) = (i : Int) := IntWalk.i64_in _ (by omega)
      have hz0 : (0 : Int) ≤ (i : Int) := by omega
      have hlt0 : (i : Int) < (L.length : Int) := by omega
      obtain ⟨b, off, s, s', hA, hb, ⟨c0, c1, c2, c3, c4, c5⟩, ⟨d0, d1, d2, d3, d4, d5⟩⟩ := vl_at2 (HV.out.keep HB.out) i hlt
      subst hA
      have HI1 := Lib.hid (show i + 1 ≤ L.length by omega)
      have HR1 := Lib.hid (fun (h0 : lessS L[i].nm L[i + 1].nm = true) j (h : j + 1 < L.length) (hj : j < i + 1) => (show lessS L[j].nm L[j + 1].nm = true by
        by_cases e : j = i
        · subst e; exact h0
        · exact HR.out j h (by omega)))
      have HNo := Lib.hid (fun (h0 : lessS L[i].nm L[i + 1].nm = false) (hr : Rises L) => (show False by
        have := hr i hlt
        exact absurd (h0.symm.trans this) (by decide)))
      generalize L[i] = x at *
      generalize L[i + 1] = y at *
      obtain ⟨sA, sn, sc⟩ := s
      obtain ⟨tA, tn, tc⟩ := s'
      unfold sv at c3 d3
      clear HI HR
      go_upto_region 4 with fail
      have hS : (wr.drew.cell? ⟨b, off + (i + 1) * 6, none⟩ = some (.string y.nm) ∧ wr.drew.cell? ⟨b, off + (i + 1) * 6 + 1, none⟩ = some (.string y.vl) ∧ wr.drew.cell? ⟨b, off + (i + 1) * 6 + 2, none⟩ = some (.bool y.il) ∧ wr.drew.cell? ⟨b, off + (i + 1) * 6 + 3, none⟩ = some (.slice sA sn sc) ∧ wr.drew.cell? ⟨b, off + (i + 1) * 6 + 4, none⟩ = some (.bool y.ex) ∧ wr.drew.cell? ⟨b, off + (i + 1) * 6 + 5, none⟩ = some (.bool y.fx)) ∧
    (wr.drew.cell? ⟨b, off + i * 6, none⟩ = some (.string x.nm) ∧ wr.drew.cell? ⟨b, off + i * 6 + 1, none⟩ = some (.string x.vl) ∧ wr.drew.cell? ⟨b, off + i * 6 + 2, none⟩ = some (.bool x.il) ∧ wr.drew.cell? ⟨b, off + i * 6 + 3, none⟩ = some (.slice tA tn tc) ∧ wr.drew.cell? ⟨b, off + i * 6 + 4, none⟩ = some (.bool x.ex) ∧ wr.drew.cell? ⟨b, off + i * 6 + 5, none⟩ = some (.bool x.fx)) := ⟨⟨c0, c1, c2, c3, c4, c5⟩, ⟨d0, d1, d2, d3, d4, d5⟩⟩
      have HS0 := Lib.hid hS
      refine wp_region_tail 13 (fun W => (W.cell? ⟨b, off + (i + 1) * 6, none⟩ = some (.string y.nm) ∧ W.cell? ⟨b, off + (i + 1) * 6 + 1, none⟩ = some (.string y.vl) ∧ W.cell? ⟨b, off + (i + 1) * 6 + 2, none⟩ = some (.bool y.il) ∧ W.cell? ⟨b, off + (i + 1) * 6 + 3, none⟩ = some (.slice sA sn sc) ∧ W.cell? ⟨b, off + (i + 1) * 6 + 4, none⟩ = some (.bool y.ex) ∧ W.cell? ⟨b, off + (i + 1) * 6 + 5, none⟩ = some (.bool y.fx)) ∧
    (W.cell? ⟨b, off + i * 6, none⟩ = some (.string x.nm) ∧ W.cell? ⟨b, off + i * 6 + 1, none⟩ = some (.string x.vl) ∧ W.cell? ⟨b, off + i * 6 + 2, none⟩ = some (.bool x.il) ∧ W.cell? ⟨b, off + i * 6 + 3, none⟩ = some (.slice tA tn tc) ∧ W.cell? ⟨b, off + i * 6 + 4, none⟩ = some (.bool x.ex) ∧ W.cell? ⟨b, off + i * 6 + 5, none⟩ = some (.bool x.fx))) (by kernel_rfl) (by decide) ?_
      refine wpAnyT_take 99 0 (v := ?_) (by kernel_rfl) rfl (by kernel_rfl) (fun _ _ _ h => h) (Or.inl ⟨by rfl, fun W hW => ?_⟩) (by with_reducible assumption) ?_
      rotate_left
      focus ((try dsimp only at hW); go_simp; try with_reducible rfl)
      refine wpAnyT_take 99 1 (v := ?_) (by kernel_rfl) rfl (by kernel_rfl) (fun _ _ _ h => h) (Or.inl ⟨by rfl, fun W hW => ?_⟩) (by with_reducible assumption) ?_
      rotate_left
      focus ((try dsimp only at hW); go_simp; try with_reducible rfl)
      refine wpAnyT_take 99 2 (v := ?_) (by kernel_rfl) rfl (by kernel_rfl) (fun _ _ _ h => h) (Or.inl ⟨by rfl, fun W hW => ?_⟩) (by with_reducible assumption) ?_
      rotate_left
      focus ((try dsimp only at hW); go_simp; try with_reducible rfl)
      refine wpAnyT_take 99 3 (v := ?_) (by kernel_rfl) rfl (by kernel_rfl) (fun _ _ _ h => h) (Or.inl ⟨by rfl, fun W hW => ?_⟩) (by with_reducible assumption) ?_
      rotate_left
      focus ((try dsimp only at hW); go_simp; try with_reducible rfl)
      refine wpAnyT_take 99 4 (v := ?_) (by kernel_rfl) rfl (by kernel_rfl) (fun _ _ _ h => h) (Or.inl ⟨by rfl, fun W hW => ?_⟩) (by with_reducible assumption) ?_
      rotate_left
      focus ((try dsimp only at hW); go_simp; try with_reducible rfl)
      refine wpAnyT_take 99 6 (v := ?_) (by kernel_rfl) rfl (by kernel_rfl) (fun _ _ _ h => h) (Or.inl ⟨by rfl, fun W hW => ?_⟩) (by with_reducible assumption) ?_
      rotate_left
      focus ((try dsimp only at hW); go_simp; try with_reducible rfl)
      refine wpAnyT_take 99 7 (v := ?_) (by kernel_rfl) rfl (by kernel_rfl) (fun _ _ _ h => h) (Or.inl ⟨by rfl, fun W hW => ?_⟩) (by with_reducible assumption) ?_
      rotate_left
      focus ((try dsimp only at hW); go_simp; try with_reducible rfl)
      refine wpAnyT_take 99 8 (v := ?_) (by kernel_rfl) rfl (by kernel_rfl) (fun _ _ _ h => h) (Or.inl ⟨by rfl, fun W hW => ?_⟩) (by with_reducible assumption) ?_
      rotate_left
      focus ((try dsimp only at hW); go_simp; try with_reducible rfl)
      refine wpAnyT_take 99 9 (v := ?_) (by kernel_rfl) rfl (by kernel_rfl) (fun _ _ _ h => h) (Or.inl ⟨by rfl, fun W hW => ?_⟩) (by with_reducible assumption) ?_
      rotate_left
      focus ((try dsimp only at hW); go_simp; try with_reducible rfl)
      refine wpAnyT_take 99 10 (v := ?_) (by kernel_rfl) rfl (by kernel_rfl) (fun _ _ _ h => h) (Or.inl ⟨by rfl, fun W hW => ?_⟩) (by with_reducible assumption) ?_
      rotate_left
      focus ((try dsimp only at hW); go_simp; try with_reducible rfl)
      refine wpAnyT_take 99 11 (v := ?_) (by kernel_rfl) rfl (by kernel_rfl) (fun _ _ _ h => h) (Or.inl ⟨by rfl, fun W hW => ?_⟩) (by with_reducible assumption) ?_
      rotate_left
      focus ((try dsimp only at hW); go_simp; try with_reducible rfl)
      simp only [Act.put, List.getElem_toArray, List.getElem_cons_zero, List.getElem_cons_succ, List.setIfInBounds_toArray, List.set_cons_zero, List.set_cons_succ]
      refine wpAnyT_one 5 (by kernel_rfl) (by decide) ?_
      refine wpOp_at rfl rfl (fun K hK => ?_)
      go_simp
      refine (keyV_any y (sA, sn, sc) _).mono ?_
      rintro e w2 ⟨rfl, hb2⟩
      have hk2 : ∀ i, w2.cell? ⟨b, i, none⟩ = wr.drew.cell? ⟨b, i, none⟩ := fun i => hb2.cell (p := ⟨b, i, none⟩) hb
      have HB2 := Lib.hid (show Below w.heap.size w w2 from HB.out.trans (((below_drewN (Below.refl _ wr) 1).trans hb2).mono HB.out.size))
      refine hK.out _ _ ⟨⟨⟨(hk2 _).trans hS.1.1, (hk2 _).trans hS.1.2.1, (hk2 _).trans hS.1.2.2.1, (hk2 _).trans hS.1.2.2.2.1, (hk2 _).trans hS.1.2.2.2.2.1, (hk2 _).trans hS.1.2.2.2.2.2⟩, ⟨(hk2 _).trans hS.2.1, (hk2 _).trans hS.2.2.1, (hk2 _).trans hS.2.2.2.1, (hk2 _).trans hS.2.2.2.2.1, (hk2 _).trans hS.2.2.2.2.2.1, (hk2 _).trans hS.2.2.2.2.2.2⟩⟩, ?_⟩
      have hlt2 : wr.heap.size ≤ w2.heap.size := hb2.size
      clear hK K hb2
      refine wpAnyT_one 12 (by kernel_rfl) (by decide) ?_
      refine wpOp_at rfl rfl (fun K hK => ?_)
      go_simp
      refine (keyV_any x (tA, tn, tc) _).mono ?_
      rintro e w3 ⟨rfl, hb3⟩
      have hk3 : ∀ i, w3.cell? ⟨b, i, none⟩ = wr.drew.cell? ⟨b, i, none⟩ := fun i => (hb3.cell (p := ⟨b, i, none⟩) (Nat.lt_of_lt_of_le hb hlt2)).trans (hk2 i)
      have HB3 := Lib.hid (show Below w.heap.size w w3 from HB2.out.trans (hb3.mono HB2.out.size))
      refine hK.out _ _ ⟨⟨⟨(hk3 _).trans hS.1.1, (hk3 _).trans hS.1.2.1, (hk3 _).trans hS.1.2.2.1, (hk3 _).trans hS.1.2.2.2.1, (hk3 _).trans hS.1.2.2.2.2.1, (hk3 _).trans hS.1.2.2.2.2.2⟩, ⟨(hk3 _).trans hS.2.1, (hk3 _).trans hS.2.2.1, (hk3 _).trans hS.2.2.2.1, (hk3 _).trans hS.2.2.2.2.1, (hk3 _).trans hS.2.2.2.2.2.1, (hk3 _).trans hS.2.2.2.2.2.2⟩⟩, ?_⟩
      clear hK K hb3 hk2 hk3 hS HS0 HB2 hlt2 c0 c1 c2 c3 c4 c5 d0 d1 d2 d3 d4 d5 HB
      refine ⟨by kernel_rfl, ?_⟩
      simp only [List.drop_succ_cons, List.drop_zero]
      cases hx : lessS x.nm y.nm
      · have HNo2 := Lib.hid (show RiseP L w (.returned (.bool false)) w3 from ⟨false, rfl, ⟨(fun h => by cases h), (fun h => (HNo.out hx h).elim)⟩, HB3.out⟩)
        cases hy : lessS y.nm x.nm
        · have f1 : Op.bytesLess y.nm.toList x.nm.toList = false := hy
          have f2 : (y.nm.toList == x.nm.toList) = true := by rw [lessS_tri hy hx]; exact beq_self_eq_true _
          clear hx hy HR1 HNo
          go_wp2_with fail
          rw [← HQ.out]
          exact HNo2.out
        · have f1 : Op.bytesLess y.nm.toList x.nm.toList = true := hy
          clear hx hy HR1 HNo
          go_wp2_with fail
          rw [← HQ.out]
          exact HNo2.out
      · have f1 : Op.bytesLess y.nm.toList x.nm.toList = false := lessS_asymm hx
        have f2 : (y.nm.toList == x.nm.toList) = false := by
          cases h : (y.nm.toList == x.nm.toList)
          · rfl
          · have := (Lib.bytes_beq_iff _ _).1 h
            rw [this, lessS_irrefl] at hx
            cases hx
        have HR2 := Lib.hid (HR1.out hx)
        clear hx HR1 HNo
        go_wp2_with fail
        exact ⟨⟨i + 1, by simp, HI1, HR2, HB3⟩, by simp [intOf]; omega⟩
    · have hnz : ¬ ((i + 1 : Nat) : Int) < (L.length : Int) := by omega
      have hnz2 : ¬ (i : Int) + 1 < (L.length : Int) := by omega
      have HFIN := Lib.hid (show RiseP L w (.returned (.bool true)) wr from ⟨true, rfl, ⟨fun _ j h => HR.out j h (by omega), fun _ => rfl⟩, HB.out⟩)
      go_wp2_with fail
      rw [← HQ.out]
      exact HFIN.out
end Go.Proofs.YtiapondfajmkaaaGreatDoor
