/- The tree's lists: the dumper's put. (Printed by tools/gtrdmp.py.) -/
import Derived.Test.YtclhdppepopgeaaGreatDoorTrDmpM
import Derived.Test.YtclhdppepopgeaaGreatDoorTail
namespace Go.Proofs.YtclhdppepopgeaaGreatDoor
open Go.RowKit

theorem mapD : Tryz.prog.underlying 76 = some (.map 63 9) := by kernel_rfl
theorem undP : Tryz.prog.underlying 63 = some (.pointer 70) := by kernel_rfl
theorem infoN0 : (Tryz.prog.info? 70).map (fun i => i.size) = some 12 := by kernel_rfl
theorem infoN : ∃ j, Tryz.prog.info? 70 = some j ∧ j.size ≠ 0 := by
  have h := infoN0
  cases hj : Tryz.prog.info? 70 with
  | none => rw [hj] at h; cases h
  | some j =>
    rw [hj] at h
    have h2 : j.size = 12 := by injection h
    exact ⟨j, rfl, by rw [h2]; decide⟩
theorem zeroS (w : World) : (zeroValue 9).run Tryz.prog w = .ok (.string ByteArray.empty) w := by kernel_rfl
/-- has the dumper seen a node? -/
theorem DA.look {w : World} {B d sm : Nat} {nb : Nat → Nat} {n : Nat} {st : DS} (h : DA w B d sm nb n st) (hc : ∀ j, j < n → Cellar w (nb j)) (hinj : ∀ i j, i < n → j < n → nb i = nb j → i = j) (i : Nat) (hi : i < n) :
    (Instr.lookup 76 (.map (some sm)) (ptr (nb i)) true).run Tryz.prog w = .ok (.tuple #[.string ((seenD st.2 i).getD ByteArray.empty), .bool (seenD st.2 i).isSome]) w := by
  obtain ⟨j, hj1, hj2⟩ := infoN
  rw [lookup_p mapD undP hj1 hj2 zeroS h.seen (hc i hi) (fun p hp => by
    obtain ⟨q, hq, rfl⟩ := List.mem_map.1 hp
    exact hc _ (h.sl q hq)), getP_seen nb n hinj st.2 h.sl i hi]
  cases seenD st.2 i <;> rfl
theorem DA.mark {w : World} {B d sm : Nat} {nb : Nat → Nat} {n : Nat} {st : DS} (h : DA w B d sm nb n st) (hc : ∀ j, j < n → Cellar w (nb j)) (hinj : ∀ i j, i < n → j < n → nb i = nb j → i = j) (i : Nat) (hi : i < n) (hs : seenD st.2 i = none) (path : ByteArray) :
    ∃ w', (Instr.mapUpdate 76 (.map (some sm)) (ptr (nb i)) (.string path)).run Tryz.prog w = .ok () w' ∧ DA w' B d sm nb n (st.1, st.2 ++ [(i, path)]) ∧ Below B w w' ∧ KeepD d sm w w' := by
  obtain ⟨j, hj1, hj2⟩ := infoN
  obtain ⟨w', h1, h2⟩ := put_p (P := Tryz.prog) mapD undP hj1 hj2 h.seen (hc i hi) (fun p hp => by
    obtain ⟨q, hq, rfl⟩ := List.mem_map.1 hp
    exact hc _ (h.sl q hq)) (.string path) (by rw [getP_seen nb n hinj st.2 h.sl i hi, hs]; rfl)
  have hds : d ≠ sm := fun e => by
    obtain ⟨v, h3, _⟩ := h.box
    have h4 := h.seen
    unfold MapAt at h4
    rw [e, h4] at h3
    injection h3 with h3
    cases h3
  refine ⟨w', h1, ⟨?_, ?_, h.bd, h.bs, fun p hp => ?_⟩, ?_, ?_⟩
  · obtain ⟨v, h3, h4⟩ := h.box
    rw [h2]
    refine ⟨v, (hset_other hds).trans h3, ⟨h4.1, ?_⟩⟩
    rcases h4.2 with h0 | ⟨g, cap, cur, h5, h6, h7, h8⟩
    · exact .inl h0
    · refine .inr ⟨g, cap, cur, h5, h6, (hset_other (fun e => ?_)).trans h7, h8⟩
      have h9 := h.seen
      unfold MapAt at h9
      rw [← e, h7] at h9
      injection h9 with h9
      cases h9
  · rw [h2]
    have h5 := h.seen.put (L' := pL (st.2.map (fun p => (nb p.1, Value.string p.2)) ++ [(nb i, Value.string path)]))
    show MapAt _ sm (pL ((st.2 ++ [(i, path)]).map _))
    rw [List.map_append]
    exact h5
  · rcases List.mem_append.1 hp with hp | hp
    · exact h.sl p hp
    · simp at hp; subst hp; exact hi
  · rw [h2]; exact below_hset (Below.refl _ _) h.bs _
  · rw [h2]
    exact ⟨by rw [hset_size]; exact Nat.le_refl _, fun b o hb _ _ h4 => (hset_other h4).trans hb⟩
/-- an entry more in the dumper's list -/
theorem DA.more {w w4 : World} {B d sm : Nat} {nb : Nat → Nat} {n : Nat} {st : DS} {v : Value} (h : DA w B d sm nb n st) (hv : w.heap[d]? = some (.cells #[v, .map (some sm)] 78 (0, 0))) (y : FE) (A : Option Addr) (c : Nat)
    (ho : OwnF B (.slice A (st.1.length + 1) c) (st.1 ++ [y]) w4) (hb : Below B w w4) (hot : OthF w w4) :
    w4.cell? ⟨d, 0, none⟩ = some v ∧ w4.frozen? ⟨d, 0, none⟩ = false ∧ DA (w4.setCell ⟨d, 0, none⟩ (.slice A (st.1.length + 1) c)) B d sm nb n (st.1 ++ [y], st.2) ∧ Below B w (w4.setCell ⟨d, 0, none⟩ (.slice A (st.1.length + 1) c)) ∧ KeepD d sm w (w4.setCell ⟨d, 0, none⟩ (.slice A (st.1.length + 1) c)) := by
  have hd4 := hot d _ hv (fun cs fr e => by injection e with _ e2; cases e2)
  have hs4 := hot sm _ h.seen (fun cs fr e => by cases e)
  have hds : sm ≠ d := fun e => by
    have h4 := h.seen
    unfold MapAt at h4
    rw [e, hv] at h4
    injection h4 with h4
    cases h4
  refine ⟨by simp [World.cell?, hd4], by simp [World.frozen?, hd4], ⟨⟨_, heap_setCell_same w4 d 0 _ _ (.slice A (st.1.length + 1) c) hd4, ?_⟩, (heap_setCell_other w4 ⟨d, 0, none⟩ sm _ hds).trans hs4, h.bd, h.bs, h.sl⟩, hb.setCell h.bd _, ?_, ?_⟩
  · have hl : (st.1 ++ [y]).length = st.1.length + 1 := by simp
    have ho' : w4.ownsRow B 33 8 (.slice A (st.1.length + 1) c) (st.1 ++ [y]).length (rowsF (st.1 ++ [y])) := ho
    exact World.ownsRow.kept (row := some d) ho' (grown_set w4 d 0 _) (.inr (fun e => by
      obtain ⟨cur, hc⟩ := own_block_is ho' d e
      rw [hd4] at hc
      injection hc with hc
      injection hc with _ hc
      cases hc))
  · have := hb.size; simp [World.setCell]; exact this
  · exact fun b o hb1 ho1 h3 h4 => (heap_setCell_other w4 ⟨d, 0, none⟩ b _ h3).trans (hot b o hb1 ho1)
theorem cat_below (path name : ByteArray) : (⟨(Lib.trimSuffix path.data.toList [47]).toArray⟩ : ByteArray) ++ (⟨#[47]⟩ : ByteArray) ++ name = belowP path name := by
  apply ByteArray.ext
  apply Array.toList_inj.1
  simp [belowP, ByteArray.data_append]

set_option maxRecDepth 100000 in
set_option maxHeartbeats 6400000 in
theorem put_any (s : TS) (t mn : Nat) (nb eb : Nat → Nat) (ch : Int) (vb vo vc : Nat) (W0 : World) (h : TM W0 s t mn nb eb ch vb vo vc) (N : Nat) (hw : WF s N) (hN : N ≤ 3000) (d sm : Nat) :
    ∀ (f : Nat) (path : ByteArray) (i : Nat) (st : DS) (w : World), Below W0.heap.size W0 w → DA w W0.heap.size d sm nb s.nds.length st → i < s.nds.length → 1 ≤ f → (dirK (s.nd i) = true → s.nds.length + 1 ≤ f + i) → path.size + 65 * f ≤ 300000 → st.1.length + restN s st.2 + 1 ≤ 10000000 →
    Calls Tryz.prog 24 #[ptr d, .string path, ptr (nb i)] w fun e w' => e = .returned (.tuple #[]) ∧ DA w' W0.heap.size d sm nb s.nds.length (dumpT s f path i st) ∧ Below W0.heap.size W0 w' ∧ KeepD d sm w w' := by
  intro f
  induction f with
  | zero => intro _ _ _ _ _ _ _ h1; exact absurd h1 (by omega)
  | succ f ih =>
    intro path i st w hbw hda hi _ hfi hps hlen
    have IH := Lib.hid ih
    clear ih
    have HT := Lib.hid h
    have HWF := Lib.hid hw
    have HBW := Lib.hid hbw
    have HDA := Lib.hid hda
    have HFI := Lib.hid hfi
    have HIN := Lib.hid h.inj
    have HCL := Lib.hid (fun (W : World) (hb : Below W0.heap.size W0 W) (j : Nat) (hj : j < s.nds.length) => ((h.node j hj).keep hb).cellar)
    have hlk := hda.look (HCL.out w hbw) HIN.out i hi
    obtain ⟨v, hbox, hown⟩ := hda.box
    have d0 : w.cell? ⟨d, 0, none⟩ = some v := by simp [World.cell?, hbox]
    have d1 : w.cell? ⟨d, 1, none⟩ = some (.map (some sm)) := by simp [World.cell?, hbox]
    have HBX := Lib.hid hbox
    have HOW := Lib.hid hown
    have hlt : st.1.length ≤ 10000000 := by omega
    have hBs : W0.heap.size ≤ w.heap.size := hbw.size
    clear h hw hbw hda hfi hbox hown
    cases hsn : seenD st.2 i with
    | some first =>
      have hres : dumpT s (f + 1) path i st = (st.1 ++ [⟨path, 0, 0, 0, 0, noneB, 0, first⟩], st.2) := by
        rw [dumpT]
        simp only [hsn]
      rw [hsn] at hlk
      rw [hres]
      replace hlk : (Instr.lookup 76 (.map (some sm)) (.pointer (some ⟨nb i, 0, none⟩)) true).run Tryz.prog w = .ok (.tuple #[.string first, .bool true]) w := hlk
      clear hsn hres IH HT HWF HFI HIN HCL
      go_enter Tryz.func24, Tryz.ntmps24
      go_wp2_with (at_builtin; refine app_fe rfl _ _ (by rfl) W0.heap.size v st.1 HOW.out (by rfl) ⟨path, 0, 0, 0, 0, noneB, 0, first⟩ (by rfl) hlt hBs ?_; intro A4 c4 w4 ho4 hb4 hot; obtain ⟨y0, y1, hD5, hB5, hK5⟩ := HDA.out.more HBX.out _ A4 c4 ho4 hb4 hot; have HD5 := Lib.hid hD5; have HB5 := Lib.hid (HBW.out.trans hB5); have HK5 := Lib.hid hK5; clear ho4 hb4 hot hD5 hB5 hK5)
      refine bodyPost_ret (results_none rfl _ _ _) rfl ?_
      exact ⟨rfl, HD5.out, HB5.out, HK5.out⟩
    | none =>
      rw [hsn] at hlk
      replace hlk : (Instr.lookup 76 (.map (some sm)) (.pointer (some ⟨nb i, 0, none⟩)) true).run Tryz.prog w = .ok (.tuple #[.string ByteArray.empty, .bool false]) w := hlk
      obtain ⟨w1, hmu, hD1, hB1, hK1⟩ := HDA.out.mark (HCL.out w HBW.out) HIN.out i hi hsn path
      replace hmu : (Instr.mapUpdate 76 (.map (some sm)) (.pointer (some ⟨nb i, 0, none⟩)) (.string path)).run Tryz.prog w = .ok () w1 := hmu
      have HD1 := Lib.hid hD1
      have HBW1 := Lib.hid (HBW.out.trans hB1)
      have HK1 := Lib.hid hK1
      have hsz1 := HK1.out.1
      go_enter Tryz.func24, Tryz.ntmps24
      obtain ⟨v1, hbox1, hown1⟩ := hD1.box
      have e0 : w1.cell? ⟨d, 0, none⟩ = some v1 := by simp [World.cell?, hbox1]
      have HBX1 := Lib.hid hbox1
      have HOW1 := Lib.hid hown1
      obtain ⟨_, _, n2, n3, n4, n5, n6, n10, n11⟩ := ((HT.out.node i hi).keep HBW1.out).cells
      have HND : Hid (fullE s path i = ⟨path, (s.nd i).kind, (s.nd i).mode, (s.nd i).user, (s.nd i).group, (s.nd i).data, (s.nd i).changed, noneB⟩) := Lib.hid rfl
      have hBs1 : W0.heap.size ≤ w1.heap.size := HBW1.out.size
      clear hD1 hB1 hK1 hbox1 hown1
      go_upto_region 4 with fail
      go_cut [] from 38 to 73 (fun wx => Hid (DA wx W0.heap.size d sm nb s.nds.length (st.1 ++ [fullE s path i], st.2 ++ [(i, path)])) ∧ Hid (Below W0.heap.size W0 wx) ∧ Hid (KeepD d sm w wx))
      case first =>
        refine wp_region_tailB 33 99 (fun W => W.cell? ⟨d, 0, none⟩ = some v1 ∧ W.cell? ⟨nb i, 2, none⟩ = some (.int .i64 (s.nd i).kind) ∧ W.cell? ⟨nb i, 3, none⟩ = some (.int .i64 (s.nd i).mode) ∧ W.cell? ⟨nb i, 4, none⟩ = some (.int .i64 (s.nd i).user) ∧ W.cell? ⟨nb i, 5, none⟩ = some (.int .i64 (s.nd i).group) ∧ W.cell? ⟨nb i, 10, none⟩ = some (.string (s.nd i).data) ∧ W.cell? ⟨nb i, 6, none⟩ = some (.int .i64 (s.nd i).changed)) (by kernel_rfl) (by decide) (by kernel_rfl) ?_
        intro hTB
        have hS : w1.drew.cell? ⟨d, 0, none⟩ = some v1 ∧ w1.drew.cell? ⟨nb i, 2, none⟩ = some (.int .i64 (s.nd i).kind) ∧ w1.drew.cell? ⟨nb i, 3, none⟩ = some (.int .i64 (s.nd i).mode) ∧ w1.drew.cell? ⟨nb i, 4, none⟩ = some (.int .i64 (s.nd i).user) ∧ w1.drew.cell? ⟨nb i, 5, none⟩ = some (.int .i64 (s.nd i).group) ∧ w1.drew.cell? ⟨nb i, 10, none⟩ = some (.string (s.nd i).data) ∧ w1.drew.cell? ⟨nb i, 6, none⟩ = some (.int .i64 (s.nd i).changed) := ⟨e0, n2, n3, n4, n5, n10, n6⟩
        refine wpAnyT_take 99 0 (v := ?_) hTB rfl (by kernel_rfl) (fun _ _ _ h => h) (Or.inl ⟨by rfl, fun W hW => ?_⟩) (by with_reducible assumption) ?_
        rotate_left
        focus ((try dsimp only at hW); (try obtain ⟨hW0, hW2, hW3, hW4, hW5, hW10, hW6⟩ := hW); go_simp; try with_reducible rfl)
        refine wpAnyT_take 99 1 (v := ?_) hTB rfl (by kernel_rfl) (fun _ _ _ h => h) (Or.inl ⟨by rfl, fun W hW => ?_⟩) (by with_reducible assumption) ?_
        rotate_left
        focus ((try dsimp only at hW); (try obtain ⟨hW0, hW2, hW3, hW4, hW5, hW10, hW6⟩ := hW); go_simp; try with_reducible rfl)
        refine wpAnyT_take 99 2 (v := ?_) hTB rfl (by kernel_rfl) (fun _ _ _ h => h) (Or.inl ⟨by rfl, fun W hW => ?_⟩) (by with_reducible assumption) ?_
        rotate_left
        focus ((try dsimp only at hW); (try obtain ⟨hW0, hW2, hW3, hW4, hW5, hW10, hW6⟩ := hW); go_simp; try with_reducible rfl)
        refine wpAnyT_take 99 3 (v := ?_) hTB rfl (by kernel_rfl) (fun _ _ _ h => h) (Or.inl ⟨by rfl, fun W hW => ?_⟩) (by with_reducible assumption) ?_
        rotate_left
        focus ((try dsimp only at hW); (try obtain ⟨hW0, hW2, hW3, hW4, hW5, hW10, hW6⟩ := hW); go_simp; try with_reducible rfl)
        refine wpAnyT_take 99 4 (v := ?_) hTB rfl (by kernel_rfl) (fun _ _ _ h => h) (Or.inl ⟨by rfl, fun W hW => ?_⟩) (by with_reducible assumption) ?_
        rotate_left
        focus ((try dsimp only at hW); (try obtain ⟨hW0, hW2, hW3, hW4, hW5, hW10, hW6⟩ := hW); go_simp; try with_reducible rfl)
        refine wpAnyT_take 99 5 (v := ?_) hTB rfl (by kernel_rfl) (fun _ _ _ h => h) (Or.inl ⟨by rfl, fun W hW => ?_⟩) (by with_reducible assumption) ?_
        rotate_left
        focus ((try dsimp only at hW); (try obtain ⟨hW0, hW2, hW3, hW4, hW5, hW10, hW6⟩ := hW); go_simp; try with_reducible rfl)
        refine wpAnyT_take 99 6 (v := ?_) hTB rfl (by kernel_rfl) (fun _ _ _ h => h) (Or.inl ⟨by rfl, fun W hW => ?_⟩) (by with_reducible assumption) ?_
        rotate_left
        focus ((try dsimp only at hW); (try obtain ⟨hW0, hW2, hW3, hW4, hW5, hW10, hW6⟩ := hW); go_simp; try with_reducible rfl)
        refine wpAnyT_take 99 7 (v := ?_) hTB rfl (by kernel_rfl) (fun _ _ _ h => h) (Or.inl ⟨by rfl, fun W hW => ?_⟩) (by with_reducible assumption) ?_
        rotate_left
        focus ((try dsimp only at hW); (try obtain ⟨hW0, hW2, hW3, hW4, hW5, hW10, hW6⟩ := hW); go_simp; try with_reducible rfl)
        refine wpAnyT_take 99 8 (v := ?_) hTB rfl (by kernel_rfl) (fun _ _ _ h => h) (Or.inl ⟨by rfl, fun W hW => ?_⟩) (by with_reducible assumption) ?_
        rotate_left
        focus ((try dsimp only at hW); (try obtain ⟨hW0, hW2, hW3, hW4, hW5, hW10, hW6⟩ := hW); go_simp; try with_reducible rfl)
        refine wpAnyT_take 99 9 (v := ?_) hTB rfl (by kernel_rfl) (fun _ _ _ h => h) (Or.inl ⟨by rfl, fun W hW => ?_⟩) (by with_reducible assumption) ?_
        rotate_left
        focus ((try dsimp only at hW); (try obtain ⟨hW0, hW2, hW3, hW4, hW5, hW10, hW6⟩ := hW); go_simp; try with_reducible rfl)
        refine wpAnyT_take 99 10 (v := ?_) hTB rfl (by kernel_rfl) (fun _ _ _ h => h) (Or.inl ⟨by rfl, fun W hW => ?_⟩) (by with_reducible assumption) ?_
        rotate_left
        focus ((try dsimp only at hW); (try obtain ⟨hW0, hW2, hW3, hW4, hW5, hW10, hW6⟩ := hW); go_simp; try with_reducible rfl)
        refine wpAnyT_take 99 11 (v := ?_) hTB rfl (by kernel_rfl) (fun _ _ _ h => h) (Or.inl ⟨by rfl, fun W hW => ?_⟩) (by with_reducible assumption) ?_
        rotate_left
        focus ((try dsimp only at hW); (try obtain ⟨hW0, hW2, hW3, hW4, hW5, hW10, hW6⟩ := hW); go_simp; try with_reducible rfl)
        refine wpAnyT_take 99 12 (v := ?_) hTB rfl (by kernel_rfl) (fun _ _ _ h => h) (Or.inl ⟨by rfl, fun W hW => ?_⟩) (by with_reducible assumption) ?_
        rotate_left
        focus ((try dsimp only at hW); (try obtain ⟨hW0, hW2, hW3, hW4, hW5, hW10, hW6⟩ := hW); go_simp; try with_reducible rfl)
        refine wpAnyT_take 99 13 (v := ?_) hTB rfl (by kernel_rfl) (fun _ _ _ h => h) (Or.inl ⟨by rfl, fun W hW => ?_⟩) (by with_reducible assumption) ?_
        rotate_left
        focus ((try dsimp only at hW); (try obtain ⟨hW0, hW2, hW3, hW4, hW5, hW10, hW6⟩ := hW); go_simp; try with_reducible rfl)
        refine wpAnyT_take 99 14 (v := ?_) hTB rfl (by kernel_rfl) (fun _ _ _ h => h) (Or.inl ⟨by rfl, fun W hW => ?_⟩) (by with_reducible assumption) ?_
        rotate_left
        focus ((try dsimp only at hW); (try obtain ⟨hW0, hW2, hW3, hW4, hW5, hW10, hW6⟩ := hW); go_simp; try with_reducible rfl)
        refine wpAnyT_take 99 15 (v := ?_) hTB rfl (by kernel_rfl) (fun _ _ _ h => h) (Or.inl ⟨by rfl, fun W hW => ?_⟩) (by with_reducible assumption) ?_
        rotate_left
        focus ((try dsimp only at hW); (try obtain ⟨hW0, hW2, hW3, hW4, hW5, hW10, hW6⟩ := hW); go_simp; try with_reducible rfl)
        refine wpAnyT_take 99 16 (v := ?_) hTB rfl (by kernel_rfl) (fun _ _ _ h => h) (Or.inl ⟨by rfl, fun W hW => ?_⟩) (by with_reducible assumption) ?_
        rotate_left
        focus ((try dsimp only at hW); (try obtain ⟨hW0, hW2, hW3, hW4, hW5, hW10, hW6⟩ := hW); go_simp; try with_reducible rfl)
        refine wpAnyT_take 99 17 (v := ?_) hTB rfl (by kernel_rfl) (fun _ _ _ h => h) (Or.inl ⟨by rfl, fun W hW => ?_⟩) (by with_reducible assumption) ?_
        rotate_left
        focus ((try dsimp only at hW); (try obtain ⟨hW0, hW2, hW3, hW4, hW5, hW10, hW6⟩ := hW); go_simp; try with_reducible rfl)
        refine wpAnyT_take 99 18 (v := ?_) hTB rfl (by kernel_rfl) (fun _ _ _ h => h) (Or.inl ⟨by rfl, fun W hW => ?_⟩) (by with_reducible assumption) ?_
        rotate_left
        focus ((try dsimp only at hW); (try obtain ⟨hW0, hW2, hW3, hW4, hW5, hW10, hW6⟩ := hW); go_simp; try with_reducible rfl)
        refine wpAnyT_take 99 19 (v := ?_) hTB rfl (by kernel_rfl) (fun _ _ _ h => h) (Or.inl ⟨by rfl, fun W hW => ?_⟩) (by with_reducible assumption) ?_
        rotate_left
        focus ((try dsimp only at hW); (try obtain ⟨hW0, hW2, hW3, hW4, hW5, hW10, hW6⟩ := hW); go_simp; try with_reducible rfl)
        refine wpAnyT_take 99 20 (v := ?_) hTB rfl (by kernel_rfl) (fun _ _ _ h => h) (Or.inl ⟨by rfl, fun W hW => ?_⟩) (by with_reducible assumption) ?_
        rotate_left
        focus ((try dsimp only at hW); (try obtain ⟨hW0, hW2, hW3, hW4, hW5, hW10, hW6⟩ := hW); go_simp; try with_reducible rfl)
        refine wpAnyT_take 99 21 (v := ?_) hTB rfl (by kernel_rfl) (fun _ _ _ h => h) (Or.inl ⟨by rfl, fun W hW => ?_⟩) (by with_reducible assumption) ?_
        rotate_left
        focus ((try dsimp only at hW); (try obtain ⟨hW0, hW2, hW3, hW4, hW5, hW10, hW6⟩ := hW); go_simp; try with_reducible rfl)
        refine wpAnyT_take 99 22 (v := ?_) hTB rfl (by kernel_rfl) (fun _ _ _ h => h) (Or.inl ⟨by rfl, fun W hW => ?_⟩) (by with_reducible assumption) ?_
        rotate_left
        focus ((try dsimp only at hW); (try obtain ⟨hW0, hW2, hW3, hW4, hW5, hW10, hW6⟩ := hW); go_simp; try with_reducible rfl)
        refine wpAnyT_take 99 23 (v := ?_) hTB rfl (by kernel_rfl) (fun _ _ _ h => h) (Or.inl ⟨by rfl, fun W hW => ?_⟩) (by with_reducible assumption) ?_
        rotate_left
        focus ((try dsimp only at hW); (try obtain ⟨hW0, hW2, hW3, hW4, hW5, hW10, hW6⟩ := hW); go_simp; try with_reducible rfl)
        refine wpAnyT_take 99 24 (v := ?_) hTB rfl (by kernel_rfl) (fun _ _ _ h => h) (Or.inl ⟨by rfl, fun W hW => ?_⟩) (by with_reducible assumption) ?_
        rotate_left
        focus ((try dsimp only at hW); (try obtain ⟨hW0, hW2, hW3, hW4, hW5, hW10, hW6⟩ := hW); go_simp; try with_reducible rfl)
        refine wpAnyT_take 99 25 (v := ?_) hTB rfl (by kernel_rfl) (fun _ _ _ h => h) (Or.inl ⟨by rfl, fun W hW => ?_⟩) (by with_reducible assumption) ?_
        rotate_left
        focus ((try dsimp only at hW); (try obtain ⟨hW0, hW2, hW3, hW4, hW5, hW10, hW6⟩ := hW); go_simp; try with_reducible rfl)
        refine wpAnyT_take 99 26 (v := ?_) hTB rfl (by kernel_rfl) (fun _ _ _ h => h) (Or.inl ⟨by rfl, fun W hW => ?_⟩) (by with_reducible assumption) ?_
        rotate_left
        focus ((try dsimp only at hW); (try obtain ⟨hW0, hW2, hW3, hW4, hW5, hW10, hW6⟩ := hW); go_simp; try with_reducible rfl)
        refine wpAnyT_take 99 27 (v := ?_) hTB rfl (by kernel_rfl) (fun _ _ _ h => h) (Or.inl ⟨by rfl, fun W hW => ?_⟩) (by with_reducible assumption) ?_
        rotate_left
        focus ((try dsimp only at hW); (try obtain ⟨hW0, hW2, hW3, hW4, hW5, hW10, hW6⟩ := hW); go_simp; try with_reducible rfl)
        refine wpAnyT_take 99 28 (v := ?_) hTB rfl (by kernel_rfl) (fun _ _ _ h => h) (Or.inl ⟨by rfl, fun W hW => ?_⟩) (by with_reducible assumption) ?_
        rotate_left
        focus ((try dsimp only at hW); (try obtain ⟨hW0, hW2, hW3, hW4, hW5, hW10, hW6⟩ := hW); go_simp; try with_reducible rfl)
        refine wpAnyT_take 99 29 (v := ?_) hTB rfl (by kernel_rfl) (fun _ _ _ h => h) (Or.inl ⟨by rfl, fun W hW => ?_⟩) (by with_reducible assumption) ?_
        rotate_left
        focus ((try dsimp only at hW); (try obtain ⟨hW0, hW2, hW3, hW4, hW5, hW10, hW6⟩ := hW); go_simp; try with_reducible rfl)
        refine wpAnyT_take 99 30 (v := ?_) hTB rfl (by kernel_rfl) (fun _ _ _ h => h) (Or.inl ⟨by rfl, fun W hW => ?_⟩) (by with_reducible assumption) ?_
        rotate_left
        focus ((try dsimp only at hW); (try obtain ⟨hW0, hW2, hW3, hW4, hW5, hW10, hW6⟩ := hW); go_simp; try with_reducible rfl)
        simp only [Act.put, List.getElem_toArray, List.getElem_cons_zero, List.getElem_cons_succ, List.setIfInBounds_toArray, List.set_cons_zero, List.set_cons_succ]
        refine wpAnyT_one 31 (by kernel_rfl) (by decide) ?_
        refine wpOp_at rfl rfl (fun K hK => ?_)
        go_simp
        have hst : ∀ W : World, Below w1.heap.size w1 W → W.cell? ⟨d, 0, none⟩ = some v1 ∧ W.cell? ⟨nb i, 2, none⟩ = some (.int .i64 (s.nd i).kind) ∧ W.cell? ⟨nb i, 3, none⟩ = some (.int .i64 (s.nd i).mode) ∧ W.cell? ⟨nb i, 4, none⟩ = some (.int .i64 (s.nd i).user) ∧ W.cell? ⟨nb i, 5, none⟩ = some (.int .i64 (s.nd i).group) ∧ W.cell? ⟨nb i, 10, none⟩ = some (.string (s.nd i).data) ∧ W.cell? ⟨nb i, 6, none⟩ = some (.int .i64 (s.nd i).changed) := fun W hb => by
          have k := fun (p : Addr) x (hx : w1.cell? p = some x) => (hb.cell (p := p) (World.block_lt_of_cell? w1 _ hx)).trans hx
          exact ⟨k _ _ e0, k _ _ n2, k _ _ n3, k _ _ n4, k _ _ n5, k _ _ n10, k _ _ n6⟩
        refine hK.out _ _ ⟨hst _ (((Below.refl _ w1).drew).alloc (Nat.le_refl _) _), ?_⟩
        clear hK K
        try simp only [Act.put, List.getElem_toArray, List.getElem_cons_zero, List.getElem_cons_succ, List.setIfInBounds_toArray, List.set_cons_zero, List.set_cons_succ]
        refine wpAnyT_one 32 (by kernel_rfl) (by decide) ?_
        refine wpOp_at rfl rfl (fun K hK => ?_)
        refine wp_app_fe (w := w1.drew) _ _ (by rfl) W0.heap.size v1 st.1 (HOW1.out.keep (Below.refl _ w1).drew) (by rfl) (fullE s path i) (by rfl) hlt hBs1 ?_
        intro A4 c4 w4 ho4 hb4 hot
        obtain ⟨y0, y1, hD5, hB5, hK5⟩ := (HD1.out.keep (Below.refl _ w1).drew).more (w := w1.drew) HBX1.out (fullE s path i) A4 c4 ho4 hb4 hot
        have HD5 := Lib.hid hD5
        have HB5 : Hid (Below W0.heap.size W0 (w4.setCell ⟨d, 0, none⟩ (.slice A4 (st.1.length + 1) c4))) := Lib.hid (HBW1.out.trans (((Below.refl _ w1).drew).trans hB5))
        have HK5 : Hid (KeepD d sm w (w4.setCell ⟨d, 0, none⟩ (.slice A4 (st.1.length + 1) c4))) := Lib.hid (HK1.out.trans hK5)
        have m := (((HT.out.node i hi).keep (HBW1.out.trans (((Below.refl _ w1).drew).trans hb4)))).cells
        clear hD5 hB5 hK5 ho4 hb4 hot hst
        refine hK.out _ _ ⟨⟨y0, m.2.2.1, m.2.2.2.1, m.2.2.2.2.1, m.2.2.2.2.2.1, m.2.2.2.2.2.2.2.1, m.2.2.2.2.2.2.1⟩, ?_⟩
        clear hK K m
        try simp only [Act.put, List.getElem_toArray, List.getElem_cons_zero, List.getElem_cons_succ, List.setIfInBounds_toArray, List.set_cons_zero, List.set_cons_succ]
        refine ⟨by kernel_rfl, ?_⟩
        simp only [List.drop_succ_cons, List.drop_zero]
        go_wp2_with fail
        go_meet
        exact ⟨HD5, HB5, HK5⟩
      case rest =>
        obtain ⟨HD2, HB2, HK2⟩ := hcut
        have HSO := Lib.hid (sorted_any s i t mn nb eb ch vb vo vc wc (HT.out.keep HB2.out) hi N HWF.out hN)
        clear e0 n2 n3 n4 n5 n6 n10 n11 d0 d1 hlk hmu
        obtain ⟨L, hL⟩ : ∃ L, L = namesT (s.en i) := ⟨_, rfl⟩
        rw [← hL] at HSO
        have HL := Lib.hid hL
        obtain ⟨st2, hst2⟩ : ∃ x : DS, x = (st.1 ++ [fullE s path i], st.2 ++ [(i, path)]) := ⟨_, rfl⟩
        rw [← hst2] at HD2
        have HRES : Hid (dumpT s (f + 1) path i st = List.foldl (stepD s f path i) st2 L) := Lib.hid (by
          rw [dumpT]
          simp only [hsn]
          rw [hst2, hL])
        have HLN : Hid (L.length ≤ 3000) := Lib.hid (by rw [hL, names_len]; exact Nat.le_trans (HWF.out.ent i) hN)
        have HCNT : Hid (∀ k, k < L.length → (List.foldl (stepD s f path i) st2 (L.take k)).1.length + restN s (List.foldl (stepD s f path i) st2 (L.take k)).2 + 1 ≤ 10000000) := Lib.hid (fun k hk => by
          have h1 := fold_len HWF.out f path i (L.take k) st2
          have h2 := rest_add s st.2 i path hi hsn
          have h3 : (L.take k).length = k := by rw [List.length_take]; omega
          have h4 : L.length = (s.en i).length := by rw [hL, names_len]
          rw [h3] at h1
          have h5 : st2.1.length = st.1.length + 1 := by rw [hst2]; simp
          have h6 : restN s st2.2 = restN s (st.2 ++ [(i, path)]) := by rw [hst2]
          omega)
        clear hL hst2 hsn HND
        go_wp2_with fail
        refine HSO.out.mono ?_
        rintro e w3 ⟨vl, rfl, hnm, hb3⟩
        have HD3 := Lib.hid (HD2.out.keep hb3)
        have HB3 : Hid (Below W0.heap.size W0 w3) := Lib.hid (HB2.out.trans (hb3.mono HB2.out.size))
        have HK3 := Lib.hid (HK2.out.below hb3)
        have HN3 := Lib.hid hnm
        obtain ⟨AL, cL, rfl, hcL, hcell⟩ := hnm.sl
        clear hcell hnm hb3 HSO HD2 HB2 HK2
        go_wp2_with fail
        go_loopw [76] (fun s76 wr => ∃ k : Nat, k ≤ L.length ∧ s76 = .int .i64 (k : Int) ∧ Hid (DA wr W0.heap.size d sm nb s.nds.length (List.foldl (stepD s f path i) st2 (L.take k))) ∧ Hid (Below W0.heap.size W0 wr) ∧ Hid (KeepD d sm w wr) ∧ Hid (NamesAt wr (.slice AL L.length cL) L)) (fun s76 _ => L.length - (intOf s76).toNat)
        case atStart => exact ⟨0, Nat.zero_le _, rfl, HD3, HB3, HK3, HN3⟩
        case round =>
          obtain ⟨k, hk, rfl, HDk, HBk, HKk, HNk⟩ := hrel
          by_cases hkl : k < L.length
          · obtain ⟨bL, oL, rfl, hbL, hcells⟩ : ∃ b off, AL = some ⟨b, off, none⟩ ∧ b < wr.heap.size ∧ ∀ j (h : j < L.length), wr.cell? ⟨b, off + j, none⟩ = some (.string L[j]) := by
              obtain ⟨A', c', e, _, h2⟩ := HNk.out.sl
              injection e with e1
              subst e1
              exact h2 (by omega)
            have hck := hcells k hkl
            have hm : L[k] ∈ L := List.getElem_mem hkl
            obtain ⟨nm, hnm⟩ : ∃ x, x = L[k] := ⟨_, rfl⟩
            have HTK : Hid (L.take (k + 1) = L.take k ++ [nm]) := Lib.hid (by rw [hnm, List.take_succ_eq_append_getElem hkl])
            rw [← hnm] at hck hm
            obtain ⟨p, hp, hpn⟩ := names_mem (HL.out ▸ hm)
            have hdir := HWF.out.dir i (fun e => by rw [e] at hp; cases hp)
            obtain ⟨j, hj⟩ := getA_of_mem _ nm ⟨p, hp, hpn⟩
            have hjm := getA_mem _ _ _ hj
            obtain ⟨hjn, hjs, _⟩ := HWF.out.val i _ hjm
            replace hjs : nm.size ≤ 64 := hjs
            replace hjn : j < s.nds.length := hjn
            have hfi := HFI.out hdir
            have hf1 : 1 ≤ f := by omega
            have hfj : dirK (s.nd j) = true → s.nds.length + 1 ≤ f + j := fun hdj => by
              have := HWF.out.down i _ hjm hdj
              have h2 : i < j := this
              omega
            have hbs := below_size path nm
            obtain ⟨stk, hstk⟩ : ∃ x : DS, x = List.foldl (stepD s f path i) st2 (L.take k) := ⟨_, rfl⟩
            have HCK := Lib.hid (HCNT.out k hkl)
            rw [← hstk] at HDk HCK
            have HST : Hid (List.foldl (stepD s f path i) st2 (L.take (k + 1)) = dumpT s f (belowP path nm) j stk) := Lib.hid (by
              rw [HTK.out, List.foldl_append, ← hstk, List.foldl_cons, List.foldl_nil]
              show dumpT s f (belowP path nm) ((getA (s.en i) nm).getD 0) stk = _
              rw [hj]
              rfl)
            have HIH := Lib.hid (fun (W : World) (hb : Below wr.heap.size wr W) => IH.out (belowP path nm) j stk W (HBk.out.trans (hb.mono HBk.out.size)) (HDk.out.keep hb) hjn hf1 hfj (by omega) HCK.out)
            rw [← HST.out] at HIH
            have HLK : Hid (∀ W, Below wr.heap.size wr W → W.cell? ⟨nb i, 11, none⟩ = some (.map (some (eb i))) ∧ (Instr.lookup 68 (.map (some (eb i))) (.string nm) false).run Tryz.prog W = .ok (ptr (nb j)) W) := Lib.hid (fun W hb => by
              have hT := HT.out.keep (HBk.out.trans (hb.mono HBk.out.size))
              refine ⟨?_, ?_⟩
              · have := (hT.node i hi).cells.2.2.2.2.2.2.2.2
                unfold evV at this
                rw [hdir] at this
                exact this
              · rw [hT.byName i hi hdir nm, hj])
            have HTS := Lib.hid (fun W => Tryz.strings_TrimSuffix path ⟨#[47]⟩ W (by omega))
            have hcb := cat_below path nm
            have htz : ByteArray.size ⟨(Lib.trimSuffix path.data.toList [47]).toArray⟩ ≤ path.size := by
              have h1 := trim_le path.data.toList [47]
              have h2 := Lib.size_eq path
              have h3 : ByteArray.size ⟨(Lib.trimSuffix path.data.toList [47]).toArray⟩ = (Lib.trimSuffix path.data.toList [47]).length := Lib.size_eq _
              omega
            obtain ⟨TT, hTT⟩ : ∃ TT : ByteArray, TT = ⟨(Lib.trimSuffix path.data.toList [47]).toArray⟩ := ⟨_, rfl⟩
            have HTS2 := Lib.hid (fun W => (HTS.out W))
            rw [show (⟨#[47]⟩ : ByteArray).data.toList = [47] from rfl] at HTS2
            rw [← hTT] at HTS2 hcb htz
            have HCB := Lib.hid hcb
            have hz3 : ¬ (9223372036854775807 < TT.size + 1) := by omega
            have hz5 : ¬ (9223372036854775807 < TT.size + 1 + nm.size) := by omega
            clear hcb hTT HTS hm hp hpn hjm hjn hjs hfj hbs hstk hcells hnm hdir hfi hj HTK htz
            go_upto_region 8 with fail
            refine wp_region_tail 12 (fun W => W.cell? ⟨nb i, 11, none⟩ = some (.map (some (eb i))) ∧ (Instr.lookup 68 (.map (some (eb i))) (.string nm) false).run Tryz.prog W = .ok (ptr (nb j)) W) (by kernel_rfl) (by decide) ?_
            have hS := HLK.out _ (Below.refl _ wr).drew
            refine wpAnyT_take 99 0 (v := ?_) (by kernel_rfl) rfl (by kernel_rfl) (fun _ _ _ h => h) (Or.inl ⟨by rfl, fun W hW => ?_⟩) (by with_reducible assumption) ?_
            rotate_left
            focus ((try dsimp only at hW); (try obtain ⟨hW0, hW1⟩ := hW); go_simp; try with_reducible rfl)
            refine wpAnyT_take 99 1 (v := ?_) (by kernel_rfl) rfl (by kernel_rfl) (fun _ _ _ h => h) (Or.inl ⟨by rfl, fun W hW => ?_⟩) (by with_reducible assumption) ?_
            rotate_left
            focus ((try dsimp only at hW); (try obtain ⟨hW0, hW1⟩ := hW); go_simp; try with_reducible rfl)
            refine wpAnyT_take 99 4 (v := ?_) (by kernel_rfl) rfl (by kernel_rfl) (fun _ _ _ h => h) (Or.inl ⟨by rfl, fun W hW => ?_⟩) (by with_reducible assumption) ?_
            rotate_left
            focus ((try dsimp only at hW); (try obtain ⟨hW0, hW1⟩ := hW); go_simp; try with_reducible rfl)
            refine wpAnyT_take 99 6 (v := ?_) (by kernel_rfl) rfl (by kernel_rfl) (fun _ _ _ h => h) (Or.inl ⟨by rfl, fun W hW => ?_⟩) (by with_reducible assumption) ?_
            rotate_left
            focus ((try dsimp only at hW); (try obtain ⟨hW0, hW1⟩ := hW); go_simp; try with_reducible rfl)
            refine wpAnyT_take 99 7 (v := ?_) (by kernel_rfl) rfl (by kernel_rfl) (fun _ _ _ h => h) (Or.inl ⟨by rfl, fun W hW => ?_⟩) (by with_reducible assumption) ?_
            rotate_left
            focus ((try dsimp only at hW); (try obtain ⟨hW0, hW1⟩ := hW); go_simp; try with_reducible rfl)
            refine wpAnyT_take 99 8 (v := ?_) (by kernel_rfl) rfl (by kernel_rfl) (fun _ _ _ h => h) (Or.inl ⟨by rfl, fun W hW => ?_⟩) (by with_reducible assumption) ?_
            rotate_left
            focus ((try dsimp only at hW); (try obtain ⟨hW0, hW1⟩ := hW); go_simp; try with_reducible rfl)
            refine wpAnyT_take 99 9 (v := ?_) (by kernel_rfl) rfl (by kernel_rfl) (fun _ _ _ h => h) (Or.inl ⟨by rfl, fun W hW => ?_⟩) (by with_reducible assumption) ?_
            rotate_left
            focus ((try dsimp only at hW); (try obtain ⟨hW0, hW1⟩ := hW); go_simp; try with_reducible rfl)
            refine wpAnyT_take 99 10 (v := ?_) (by kernel_rfl) rfl (by kernel_rfl) (fun _ _ _ h => h) (Or.inl ⟨by rfl, fun W hW => ?_⟩) (by with_reducible assumption) ?_
            rotate_left
            focus ((try dsimp only at hW); (try obtain ⟨hW0, hW1⟩ := hW); go_simp; try with_reducible rfl)
            refine wpAnyT_take 99 11 (v := ?_) (by kernel_rfl) rfl (by kernel_rfl) (fun _ _ _ h => h) (Or.inl ⟨by rfl, fun W hW => ?_⟩) (by with_reducible assumption) ?_
            rotate_left
            focus ((try dsimp only at hW); (try obtain ⟨hW0, hW1⟩ := hW); go_simp; try with_reducible rfl)
            simp only [Act.put, List.getElem_toArray, List.getElem_cons_zero, List.getElem_cons_succ, List.setIfInBounds_toArray, List.set_cons_zero, List.set_cons_succ]
            refine wpAnyT_one 2 (by kernel_rfl) (by decide) ?_
            refine wpOp_at rfl rfl (fun K hK => ?_)
            go_simp
            refine (HTS2.out _).mono ?_
            rintro e w5 ⟨rfl, rfl⟩
            refine hK.out _ _ ⟨hS, ?_⟩
            clear hK K
            try simp only [Act.put, List.getElem_toArray, List.getElem_cons_zero, List.getElem_cons_succ, List.setIfInBounds_toArray, List.set_cons_zero, List.set_cons_succ]
            refine wpAnyT_take 99 3 (v := .string (TT ++ ⟨#[47]⟩)) (by kernel_rfl) rfl (by kernel_rfl) (fun _ _ _ h => h) (Or.inl ⟨by rfl, fun W hW => ?_⟩) (by with_reducible assumption) ?_
            · (go_simp; try rw [if_neg hz3])
            refine wpAnyT_take 99 5 (v := .string (TT ++ ⟨#[47]⟩ ++ nm)) (by kernel_rfl) rfl (by kernel_rfl) (fun _ _ _ h => h) (Or.inl ⟨by rfl, fun W hW => ?_⟩) (by with_reducible assumption) ?_
            · (go_simp; try rw [if_neg hz5])
            simp only [Act.put, List.getElem_toArray, List.getElem_cons_zero, List.getElem_cons_succ, List.setIfInBounds_toArray, List.set_cons_zero, List.set_cons_succ]
            refine ⟨by kernel_rfl, ?_⟩
            simp only [List.drop_succ_cons, List.drop_zero]
            have HQ := HIH.out _ (Below.refl _ wr).drew
            rw [← HCB.out] at HQ
            have HQ2 := Lib.hid HQ
            clear HQ hS
            go_wp2_with fail
            refine HQ2.out.mono ?_
            rintro e w6 ⟨rfl, hD6, hB6, hK6⟩
            have HD6 := Lib.hid hD6
            have HB6 := Lib.hid hB6
            have HK6 : Hid (KeepD d sm w w6) := Lib.hid (HKk.out.trans (((KeepD.refl d sm wr).below (Below.refl _ wr).drew).trans hK6))
            have HN6 : Hid (NamesAt w6 (.slice (some ⟨bL, oL, none⟩) L.length cL) L) := Lib.hid (by
              obtain ⟨vx, hx1, _⟩ := HDk.out.box
              exact (((KeepD.refl d sm wr).below (Below.refl _ wr).drew).trans hK6).names (by decide) hx1 HDk.out.seen HNk.out)
            clear hD6 hB6 hK6
            have hln := HLN.out
            have hz1 : IntKind.i64.wrap ((k : Int) + 1) = ((k + 1 : Nat) : Int) := IntWalk.i64_in _ (by omega)
            go_wp2_with fail
            exact ⟨⟨k + 1, by omega, rfl, HD6, HB6, HK6, HN6⟩, by simp [intOf]; omega⟩
          · obtain rfl : k = L.length := by omega
            go_wp2_with fail
            go_end0
            exact ⟨rfl, by rw [HRES.out]; rw [List.take_length] at HDk; exact HDk.out, HBk.out, HKk.out⟩

end Go.Proofs.YtclhdppepopgeaaGreatDoor
