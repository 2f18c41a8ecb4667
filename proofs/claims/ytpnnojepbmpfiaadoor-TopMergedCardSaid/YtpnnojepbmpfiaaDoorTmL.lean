/- TopMerged: sure lines come to the pieces: the walk. (Printed by tools/gtml.py.) -/
import Derived.Test.YtpnnojepbmpfiaaDoorTmK
namespace Go.Proofs.YtpnnojepbmpfiaaDoor
open Go.RowKit

/-- what sure gives -/
def SureP (l : List ByteArray) (w0 w : World) (R : List PC) (e : Ending) (w' : World) : Prop :=
  e = .returned (.tuple #[]) ∧ RegKept w w' ∧ ∃ vp' P' lb', Mg w0 w' vp' P' (surR R l) lb'
set_option maxRecDepth 100000 in
set_option maxHeartbeats 6400000 in
theorem sure_any (l : List ByteArray) (vl : Value) (w0 w : World) (vp : Value) (P : List PV) (R : List PC) (lb : Option Nat) (h : Mg w0 w vp P R lb) (hl : SL w vl l) (hP : R.length ≤ 100000) (hT : tot R + l.length ≤ 1000000000000) :
    Calls Tryd.prog 14 #[.pointer (some ⟨w0.heap.size, 0, none⟩), vl] w (SureP l w0 w R) := by
  obtain ⟨Q, hQ⟩ : ∃ Q, SureP l w0 w R = Q := ⟨_, rfl⟩
  rw [hQ]
  have HQ := Lib.hid hQ
  have HM := Lib.hid h
  have HSl := Lib.hid hl
  obtain ⟨A, n, ca, rfl⟩ : ∃ A n c, vl = .slice A n c := by obtain ⟨A, c, rfl, _⟩ := hl; exact ⟨_, _, _, rfl⟩
  have hnl := hl.len
  have HP := Lib.hid (And.intro hP hT)
  have HPl := Lib.hid h.lenR
  obtain ⟨pp, np, cp, rfl⟩ : ∃ p n c, vp = .slice p n c := by obtain ⟨p, c, e⟩ := own_form h.own; exact ⟨p, _, c, e⟩
  have hnp : np = P.length := by
    rcases h.own.2 with ⟨e, h0⟩ | ⟨g, cap, cur, e, _⟩
    · injection e with e1 e2 e3; omega
    · injection e
  have hbox := h.box
  have c0 := (hbox.cell.1 0).trans rfl
  have hnp2 : np ≤ 100000 := by have := HPl.out; omega
  by_cases h0 : l = []
  · subst h0
    have hn00 : n = 0 := by simpa using hl.len
    subst hn00
    have HF := Lib.hid (show SureP [] w0 w R (.returned (.tuple #[])) w from ⟨rfl, RegKept.refl _, _, P, lb, by
      rw [show surR R [] = R from by cases R <;> simp [surR]]
      exact h⟩)
    clear hQ h hl hP hT hnl hbox hnp
    go_enter Tryd.func14, Tryd.ntmps14
    go_wp2_with fail
    go_end0
    rw [← HQ.out]
    exact HF.out
  have hn0 : ¬ (n : Int) = 0 := by
    have : l.length ≠ 0 := fun e => h0 (List.length_eq_zero_iff.1 e)
    omega
  have hnb : ((n : Int) == 0) = false := beq_eq_false_iff_ne.2 hn0
  obtain ⟨qz, hq⟩ : ∃ qz : Int, qz = (np : Int) - 1 := ⟨_, rfl⟩
  have e1 : IntKind.i64.wrap ((np : Int) - 1) = qz := by rw [hq]; exact IntWalk.i64_in _ (by omega)
  have HQz := Lib.hid hq
  have HNp := Lib.hid hnp
  have HNl := Lib.hid hnl
  have H0 := Lib.hid h0
  have HBox := Lib.hid hbox
  have hbl : w0.heap.size < w.heap.size := (Array.getElem?_eq_some_iff.1 hbox).1
  clear hQ h hl hP hT hnl hbox hnp hq h0
  go_enter Tryd.func14, Tryd.ntmps14
  go_upto_region 2 with fail
  go_cut [26] from 14 to 26 (fun s26 wx => s26 = .bool (growR R) ∧ w = wx)
  case first =>
    clear e1
    cases R with
    | nil =>
      have hzb : decide (0 ≤ qz) = false := decide_eq_false (by have := HQz.out; have := HNp.out; have h0 : P.length = 0 := HPl.out; omega)
      have hz : ¬ qz ≥ 0 := of_decide_eq_false hzb
      go_wp2_with fail
      go_meet
      exact ⟨rfl, rfl⟩
    | cons q R =>
      rcases List.eq_nil_or_concat P with hPn | ⟨P0, ⟨cf, s, ba, x, y⟩, hP0⟩
      · subst hPn
        have := HPl.out
        simp at this
      have hPe : P = P0 ++ [(cf, s, ba, x, y)] := by rw [hP0, List.concat_eq_append]
      clear hP0
      subst hPe
      have hpc := HM.out.pcs
      rw [List.reverse_append] at hpc
      have hcf : cf = q.conf := hpc.1.conf
      clear hpc
      obtain ⟨gr, cq, e, hb1, hb2, hc0, hc1, hfz⟩ := HM.out.last
      injection e with e1 e2 e3
      subst e1 e3
      obtain ⟨m, hm⟩ : ∃ m : Nat, m = P0.length := ⟨_, rfl⟩
      have hqm : qz = (m : Int) := by have := HQz.out; omega
      rw [← hm] at hc0
      have hlt2 : (m : Int) < (np : Int) := by omega
      subst hqm
      clear hm e2 hc1 hfz hb1 hb2
      rw [hcf] at hc0
      have HG := Lib.hid (show growR (q :: R) = !q.conf from rfl)
      go_wp2_with fail
      go_meet
      exact ⟨by rw [HG.out], rfl⟩
  case rest =>
    obtain ⟨rfl, rfl⟩ := hcut
    by_cases hg : growR R = true
    · rw [hg]
      cases R with
      | nil => cases hg
      | cons q R =>
      rcases List.eq_nil_or_concat P with hPn | ⟨P0, ⟨cf, s, ba, x, y⟩, hP0⟩
      · subst hPn
        have := HPl.out
        simp at this
      have hPe : P = P0 ++ [(cf, s, ba, x, y)] := by rw [hP0, List.concat_eq_append]
      clear hP0
      subst hPe
      obtain ⟨gr, cq, e, hb1, hb2, hc0, hc1, hfz⟩ := HM.out.last
      injection e with e1 e2 e3
      subst e1 e3
      obtain ⟨m, hm⟩ : ∃ m : Nat, m = P0.length := ⟨_, rfl⟩
      have hqm : qz = (m : Int) := by have := HQz.out; omega
      rw [← hm] at hc1 hfz
      have hlt2 : (m : Int) < (np : Int) := by omega
      have HMm := Lib.hid (And.intro hm e2)
      subst hqm
      clear hm e2 hc0
      have hpc := HM.out.pcs
      rw [List.reverse_append] at hpc
      have HLn := Lib.hid hpc.1.ln
      have HSr := Lib.hid (surR_grow H0.out hg)
      clear hpc hg
      obtain ⟨sa, sn, sc⟩ := s
      dsimp only [sv] at hc1 HLn
      obtain ⟨a0, hA⟩ : ∃ a0, A = some a0 := by
        obtain ⟨A', c', e, _, hx⟩ := HSl.out
        injection e with e1 _ _
        obtain ⟨b, off, e2, _⟩ := hx (List.length_pos_iff.2 H0.out)
        exact ⟨_, e1.trans e2⟩
      subst hA
      obtain ⟨i0, hi, hz0, hz1, hz2⟩ := info_parts strInfo
      have HTt := Lib.hid (show q.ln.length + l.length ≤ 1000000000000 from by have := HP.out.2; simp only [tot] at this; omega)
      go_upto_region 3 with fail
      refine wp_region_tail 17 (fun W => W.cell? ⟨w0.heap.size, 0, none⟩ = some (.slice (some ⟨gr, 0, none⟩) np cp) ∧ W.cell? ⟨gr, m * 5 + 1, none⟩ = some (.slice sa sn sc)) (by kernel_rfl) (by decide) ?_
      have hS : w.drew.cell? ⟨w0.heap.size, 0, none⟩ = some (.slice (some ⟨gr, 0, none⟩) np cp) ∧ w.drew.cell? ⟨gr, m * 5 + 1, none⟩ = some (.slice sa sn sc) := ⟨c0, hc1⟩
      refine wpAnyT_take 99 0 (v := ?_) (by kernel_rfl) rfl (by kernel_rfl) (fun _ _ _ h => h) (Or.inl ⟨by rfl, fun W hW => ?_⟩) (by with_reducible assumption) ?_
      rotate_left
      focus ((try dsimp only at hW); go_simp; try with_reducible rfl)
      refine wpAnyT_take 99 1 (v := ?_) (by kernel_rfl) rfl (by kernel_rfl) (fun _ _ _ h => h) (Or.inl ⟨by rfl, fun W hW => ?_⟩) (by with_reducible assumption) ?_
      rotate_left
      focus ((try dsimp only at hW); go_simp; try with_reducible rfl)
      refine wpAnyT_take 99 2 (v := ?_) (by kernel_rfl) rfl (by kernel_rfl) (fun _ _ _ h => h) (Or.inl ⟨by rfl, fun W hW => ?_⟩) (by with_reducible assumption) ?_
      rotate_left
      focus ((try dsimp only at hW); go_simp; try with_reducible rfl)
      refine wpAnyT_take 99 3 (v := ?_) (by kernel_rfl) rfl (by kernel_rfl) (fun _ _ _ h => h) (Or.inl ⟨by rfl, fun W hW => ?_⟩) (by with_reducible assumption) ?_
      rotate_left
      focus ((try dsimp only at hW); go_simp; try with_reducible rfl)
      refine wpAnyT_take 99 4 (v := ?_) (by kernel_rfl) rfl (by kernel_rfl) (fun _ _ _ h => h) (Or.inl ⟨by rfl, fun W hW => ?_⟩) (by with_reducible assumption) ?_
      rotate_left
      focus ((try dsimp only at hW); go_simp; try with_reducible rfl)
      refine wpAnyT_take 99 5 (v := ?_) (by kernel_rfl) rfl (by kernel_rfl) (fun _ _ _ h => h) (Or.inl ⟨by rfl, fun W hW => ?_⟩) (by with_reducible assumption) ?_
      rotate_left
      focus ((try dsimp only at hW); go_simp; try with_reducible rfl)
      refine wpAnyT_take 99 6 (v := ?_) (by kernel_rfl) rfl (by kernel_rfl) (fun _ _ _ h => h) (Or.inl ⟨by rfl, fun W hW => ?_⟩) (by with_reducible assumption) ?_
      rotate_left
      focus ((try dsimp only at hW); go_simp; try with_reducible rfl)
      refine wpAnyT_take 99 7 (v := ?_) (by kernel_rfl) rfl (by kernel_rfl) (fun _ _ _ h => h) (Or.inl ⟨by rfl, fun W hW => ?_⟩) (by with_reducible assumption) ?_
      rotate_left
      focus ((try dsimp only at hW); go_simp; try with_reducible rfl)
      refine wpAnyT_take 99 8 (v := ?_) (by kernel_rfl) rfl (by kernel_rfl) (fun _ _ _ h => h) (Or.inl ⟨by rfl, fun W hW => ?_⟩) (by with_reducible assumption) ?_
      rotate_left
      focus ((try dsimp only at hW); go_simp; try with_reducible rfl)
      refine wpAnyT_take 99 9 (v := ?_) (by kernel_rfl) rfl (by kernel_rfl) (fun _ _ _ h => h) (Or.inl ⟨by rfl, fun W hW => ?_⟩) (by with_reducible assumption) ?_
      rotate_left
      focus ((try dsimp only at hW); go_simp; try with_reducible rfl)
      refine wpAnyT_take 99 10 (v := ?_) (by kernel_rfl) rfl (by kernel_rfl) (fun _ _ _ h => h) (Or.inl ⟨by rfl, fun W hW => ?_⟩) (by with_reducible assumption) ?_
      rotate_left
      focus ((try dsimp only at hW); go_simp; try with_reducible rfl)
      refine wpAnyT_take 99 11 (v := ?_) (by kernel_rfl) rfl (by kernel_rfl) (fun _ _ _ h => h) (Or.inl ⟨by rfl, fun W hW => ?_⟩) (by with_reducible assumption) ?_
      rotate_left
      focus ((try dsimp only at hW); go_simp; try with_reducible rfl)
      refine wpAnyT_take 99 12 (v := ?_) (by kernel_rfl) rfl (by kernel_rfl) (fun _ _ _ h => h) (Or.inl ⟨by rfl, fun W hW => ?_⟩) (by with_reducible assumption) ?_
      rotate_left
      focus ((try dsimp only at hW); go_simp; try with_reducible rfl)
      refine wpAnyT_take 99 13 (v := ?_) (by kernel_rfl) rfl (by kernel_rfl) (fun _ _ _ h => h) (Or.inl ⟨by rfl, fun W hW => ?_⟩) (by with_reducible assumption) ?_
      rotate_left
      focus ((try dsimp only at hW); go_simp; try with_reducible rfl)
      simp only [Act.put, List.getElem_toArray, List.getElem_cons_zero, List.getElem_cons_succ, List.setIfInBounds_toArray, List.set_cons_zero, List.set_cons_succ]
      refine wpAnyT_one 14 (by kernel_rfl) (by decide) ?_
      refine wpOp_at rfl rfl (fun K hK => ?_)
      refine wp_append_lies _ _ _ 22 (by rfl) (w0.heap.size + 1) 9 i0 _ 1 16 Tryd.underlying22 hi hz0 hz1 hz2 rfl (by decide) (.slice sa sn sc) q.ln.length (q.ln.map Value.string) (by rfl) (own_keep HLn.out (Below.refl _ _).drew) a0 n ca (l.map Value.string) (by rfl) (by rw [HNl.out]; simp) (sl_cells (HSl.out.keep (Below.refl _ _).drew)) (strs_one l) (by omega) (by have := HTt.out; have := HNl.out; unfold maxLen; omega) (by have := HTt.out; have := HNl.out; omega) (by show w0.heap.size + 1 ≤ w.heap.size; omega) _ rfl ?_
      intro g1 cap w9 hown hgr hat hlt9
      rw [HNl.out] at hown ⊢
      have HF := Lib.hid ((HM.out.keep (Below.refl _ _).drew).grow (w' := w9) (l := l) HSr.out.2 (g := gr) (cap := cp) (by rw [HMm.out.2]) (by rw [List.map_append]; exact hown) hgr hat)
      have hx1 : w9.cell? ⟨w0.heap.size, 0, none⟩ = _ := (World.cell?_of_block (hgr.block w0.heap.size hbl (fun e => own_blk HLn.out HBox.out (by decide) w0.heap.size e.symm rfl))).trans hS.1
      have hpo := own_ne HM.out.own HLn.out (by decide)
      have hne : some gr ≠ (Value.slice sa sn sc).ownBlock := by
        rcases hpo with e | e
        · cases e
        · exact e
      have hx2 : w9.cell? ⟨gr, m * 5 + 1, none⟩ = _ := (World.cell?_of_block (hgr.block gr hb2 hne)).trans hS.2
      have hx3 : w9.frozen? ⟨gr, m * 5 + 1, none⟩ = false := (World.frozen?_of_block (hgr.block gr hb2 hne)).trans hfz
      have hbx9 : Blk w9 w0.heap.size 47 #[.slice (some ⟨gr, 0, none⟩) np cp] := (hgr.block w0.heap.size hbl (fun e => own_blk HLn.out HBox.out (by decide) w0.heap.size e.symm rfl)).trans HBox.out
      have hpr9 : w9.ownsRow (w0.heap.size + 1) 29 5 (.slice (some ⟨gr, 0, none⟩) np cp) (P0 ++ [(cf, (sa, sn, sc), ba, x, y)]).length (prP (P0 ++ [(cf, (sa, sn, sc), ba, x, y)])) := (own_keep HM.out.own (Below.refl _ _).drew).kept hgr hpo
      have HK9 := Lib.hid (show RegKept w (w9.setCell ⟨gr, m * 5 + 1, none⟩ (.slice (some ⟨g1, 0, none⟩) (q.ln.length + l.length) cap)) from by
        refine (RegKept.grown (w := w.drew) (own_keep HLn.out (Below.refl _ _).drew) (by decide) hgr).trans ?_
        intro k cs hk
        exact (heap_setCell_other w9 ⟨gr, m * 5 + 1, none⟩ k _ (fun e => own_blk hpr9 hk (by decide) gr rfl (show gr = k from e.symm))).trans hk)
      clear hown hgr hat hlt9 hpo hbx9 hpr9 hne hfz hc1
      refine hK.out _ _ ⟨⟨hx1, hx2⟩, ?_⟩
      clear hK K
      refine wpAnyT_take 99 15 (v := ?_) (by kernel_rfl) rfl (by kernel_rfl) (fun _ _ _ h => h) (Or.inl ⟨by rfl, fun W hW => ?_⟩) ⟨hx1, hx2⟩ ?_
      rotate_left
      focus ((try dsimp only at hW); go_simp; try with_reducible rfl)
      refine wpAnyT_take 99 16 (v := ?_) (by kernel_rfl) rfl (by kernel_rfl) (fun _ _ _ h => h) (Or.inl ⟨by rfl, fun W hW => ?_⟩) ⟨hx1, hx2⟩ ?_
      rotate_left
      focus ((try dsimp only at hW); go_simp; try with_reducible rfl)
      simp only [Act.put, List.getElem_toArray, List.getElem_cons_zero, List.getElem_cons_succ, List.setIfInBounds_toArray, List.set_cons_zero, List.set_cons_succ]
      refine ⟨by kernel_rfl, ?_⟩
      simp only [List.drop_succ_cons, List.drop_zero]
      rw [← HMm.out.1] at HF
      go_wp2_with fail
      go_end0
      rw [← HQ.out]
      exact ⟨rfl, HK9.out, _, _, _, by rw [HSr.out.1]; exact HF.out⟩
    · have hg2 : growR R = false := by simpa using hg
      rw [hg2]
      have HSr := Lib.hid (surR_new H0.out hg2)
      obtain ⟨i0, hi, hz0, hz1, hz2⟩ := info_parts pieceInfo
      have HCl := Lib.hid (clone_any l _ w.drew (HSl.out.keep (Below.refl _ _).drew) (by have := HP.out.2; omega))
      clear hg hg2
      go_upto_region 4 with fail
      refine wp_region_tail 12 (fun W => W.cell? ⟨w0.heap.size, 0, none⟩ = some (.slice pp np cp)) (by kernel_rfl) (by decide) ?_
      have hS : w.drew.cell? ⟨w0.heap.size, 0, none⟩ = some (.slice pp np cp) := c0
      refine wpAnyT_take 99 0 (v := ?_) (by kernel_rfl) rfl (by kernel_rfl) (fun _ _ _ h => h) (Or.inl ⟨by rfl, fun W hW => ?_⟩) (by with_reducible assumption) ?_
      rotate_left
      focus ((try dsimp only at hW); go_simp; try with_reducible rfl)
      refine wpAnyT_take 99 1 (v := ?_) (by kernel_rfl) rfl (by kernel_rfl) (fun _ _ _ h => h) (Or.inl ⟨by rfl, fun W hW => ?_⟩) (by with_reducible assumption) ?_
      rotate_left
      focus ((try dsimp only at hW); go_simp; try with_reducible rfl)
      refine wpAnyT_take 99 2 (v := ?_) (by kernel_rfl) rfl (by kernel_rfl) (fun _ _ _ h => h) (Or.inl ⟨by rfl, fun W hW => ?_⟩) (by with_reducible assumption) ?_
      rotate_left
      focus ((try dsimp only at hW); go_simp; try with_reducible rfl)
      refine wpAnyT_take 99 3 (v := ?_) (by kernel_rfl) rfl (by kernel_rfl) (fun _ _ _ h => h) (Or.inl ⟨by rfl, fun W hW => ?_⟩) (by with_reducible assumption) ?_
      rotate_left
      focus ((try dsimp only at hW); go_simp; try with_reducible rfl)
      refine wpAnyT_take 99 4 (v := ?_) (by kernel_rfl) rfl (by kernel_rfl) (fun _ _ _ h => h) (Or.inl ⟨by rfl, fun W hW => ?_⟩) (by with_reducible assumption) ?_
      rotate_left
      focus ((try dsimp only at hW); go_simp; try with_reducible rfl)
      refine wpAnyT_take 99 5 (v := ?_) (by kernel_rfl) rfl (by kernel_rfl) (fun _ _ _ h => h) (Or.inl ⟨by rfl, fun W hW => ?_⟩) (by with_reducible assumption) ?_
      rotate_left
      focus ((try dsimp only at hW); go_simp; try with_reducible rfl)
      simp only [Act.put, List.getElem_toArray, List.getElem_cons_zero, List.getElem_cons_succ, List.setIfInBounds_toArray, List.set_cons_zero, List.set_cons_succ]
      refine wpAnyT_one 6 (by kernel_rfl) (by decide) ?_
      refine wpOp_at rfl rfl (fun K hK => ?_)
      go_simp
      refine HCl.out.mono ?_
      rintro e wb ⟨v, rfl, ho, hb⟩
      have hxb : Below w.heap.size w wb := below_of_drew hb
      obtain ⟨pv, cv, rfl⟩ := own_form ho
      have HOv := Lib.hid (own_base (b' := w0.heap.size + 1) ho (by show w0.heap.size + 1 ≤ w.heap.size; omega))
      have HNew := Lib.hid (show (Value.slice pv l.length cv).ownBlock = none ∨ ∃ g, (Value.slice pv l.length cv).ownBlock = some g ∧ w.heap.size ≤ g from by
        cases hob : (Value.slice pv l.length cv).ownBlock with
        | none => exact .inl rfl
        | some g => exact .inr ⟨g, rfl, (ho.lt g hob).1⟩)
      have hSb : wb.cell? ⟨w0.heap.size, 0, none⟩ = some (.slice pp np cp) := ((HBox.out.keep hxb).cell.1 0).trans rfl
      clear ho hb hS
      refine hK.out _ _ ⟨hSb, ?_⟩
      clear hK K
      refine wpAnyT_take 99 7 (v := .agg #[.bool false, .slice pv l.length cv, .slice none 0 0, .slice none 0 0, .slice none 0 0]) (by kernel_rfl) rfl (by kernel_rfl) (fun _ _ _ h => h) (Or.inl ⟨by rfl, fun W hW => ?_⟩) hSb ?_
      · go_simp
      refine wpAnyT_one 8 (by kernel_rfl) (by decide) ?_
      refine wpOp_at rfl rfl (fun K hK => ?_)
      go_simp
      have hxc : Below w.heap.size w (wb.alloc (.cells #[.bool false, .slice pv l.length cv, .slice none 0 0, .slice none 0 0, .slice none 0 0] 29)) := hxb.alloc hxb.size _
      have hxd := (Below.refl wb.heap.size wb).alloc (Nat.le_refl _) (.cells #[.bool false, .slice pv l.length cv, .slice none 0 0, .slice none 0 0, .slice none 0 0] 29)
      have hSc : (wb.alloc (.cells #[.bool false, .slice pv l.length cv, .slice none 0 0, .slice none 0 0, .slice none 0 0] 29)).cell? ⟨w0.heap.size, 0, none⟩ = some (.slice pp np cp) := ((HBox.out.keep hxc).cell.1 0).trans rfl
      refine hK.out _ _ ⟨hSc, ?_⟩
      clear hK K
      have hM2 := HM.out.keep hxc
      have hh : IsHead (wb.alloc (.cells #[.bool false, .slice pv l.length cv, .slice none 0 0, .slice none 0 0, .slice none 0 0] 29)) (w0.heap.size + 1) (Value.slice pv l.length cv).ownBlock (false, (pv, l.length, cv), (none, 0, 0), (none, 0, 0), (none, 0, 0)) ⟨false, l, [], [], []⟩ := ⟨rfl, own_keep HOv.out hxd, fun _ => rfl, fun e => (by cases e), OwnF.nil _ _ _, OwnF.nil _ _ _, OwnF.nil _ _ _⟩
      have HHd := Lib.hid hh
      refine wpAnyT_one 9 (by kernel_rfl) (by decide) ?_
      refine wpOp_at rfl rfl (fun K hK => ?_)
      have hprow := hM2.own
      rw [← HNp.out] at hprow
      refine wp_append_lies _ _ _ 24 (by rfl) (w0.heap.size + 1) 29 i0 _ 5 104 Tryd.underlying24 hi hz0 hz1 hz2 rfl (by decide) (.slice pp np cp) np (prP P) (by rfl) hprow _ 1 1 [.bool false, .slice pv l.length cv, .slice none 0 0, .slice none 0 0, .slice none 0 0] (by rfl) rfl (World.news_of_block (heap_alloc_new _ _)) (by intro u hu; simp at hu; rcases hu with rfl | rfl | rfl | rfl | rfl <;> rfl) (by decide) (by unfold maxLen; omega) (by omega) (by have := hxc.size; omega) _ rfl ?_
      intro g1 cap w9 hown hgr hat hlt9
      have HF := Lib.hid (HM.out.put (p := (false, (pv, l.length, cv), (none, 0, 0), (none, 0, 0), (none, 0, 0))) (q := ⟨false, l, [], [], []⟩) hxc HHd.out HNew.out (by rw [← HNp.out]; exact hown) hgr)
      have hbx9 : Blk w9 w0.heap.size 47 #[.slice pp np cp] := (hgr.block w0.heap.size (Nat.lt_of_lt_of_le hbl hxc.size) (fun e => own_blk hprow (HBox.out.keep hxc) (by decide) w0.heap.size e.symm rfl)).trans (HBox.out.keep hxc)
      have HK9 := Lib.hid (show RegKept w (w9.setCell ⟨w0.heap.size, 0, none⟩ (.slice (some ⟨g1, 0, none⟩) (np + 1) cap)) from
        ((RegKept.of_below hxc).trans (RegKept.grown hprow (by decide) hgr)).trans (RegKept.set hbx9 (by decide)))
      have hS9 : w9.cell? ⟨w0.heap.size, 0, none⟩ = some (.slice pp np cp) := (hbx9.cell.1 0).trans rfl
      have hz9 := hbx9.cell.2 0
      clear hown hgr hat hlt9 hbx9 hprow hM2 hh hSb hSc
      refine hK.out _ _ ⟨hS9, ?_⟩
      clear hK K
      refine wpAnyT_take 99 10 (v := ?_) (by kernel_rfl) rfl (by kernel_rfl) (fun _ _ _ h => h) (Or.inl ⟨by rfl, fun W hW => ?_⟩) hS9 ?_
      rotate_left
      focus ((try dsimp only at hW); go_simp; try with_reducible rfl)
      refine wpAnyT_take 99 11 (v := ?_) (by kernel_rfl) rfl (by kernel_rfl) (fun _ _ _ h => h) (Or.inl ⟨by rfl, fun W hW => ?_⟩) hS9 ?_
      rotate_left
      focus ((try dsimp only at hW); go_simp; try with_reducible rfl)
      simp only [Act.put, List.getElem_toArray, List.getElem_cons_zero, List.getElem_cons_succ, List.setIfInBounds_toArray, List.set_cons_zero, List.set_cons_succ]
      refine ⟨by kernel_rfl, ?_⟩
      simp only [List.drop_succ_cons, List.drop_zero]
      go_wp2_with fail
      go_end0
      rw [← HQ.out]
      exact ⟨rfl, HK9.out, _, _, _, by rw [HSr.out]; exact HF.out⟩
end Go.Proofs.YtpnnojepbmpfiaaDoor
