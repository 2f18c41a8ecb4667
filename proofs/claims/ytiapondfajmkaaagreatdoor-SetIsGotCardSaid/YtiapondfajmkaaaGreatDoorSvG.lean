/- Shell states: all texts of a state; the names rise. -/
import Derived.Test.YtiapondfajmkaaaGreatDoorSvF
import Derived.Test.YtiapondfajmkaaaGreatDoorSvOk
namespace Go.Proofs.YtiapondfajmkaaaGreatDoor
open Go.RowKit

theorem textsV_take {L : List VarV} {k : Nat} (h : k < L.length) : textsV (L.take (k + 1)) = textsV (L.take k) ++ [L[k].nm, L[k].vl] ++ L[k].ls := by
  unfold textsV
  rw [List.take_succ_eq_append_getElem h, List.flatMap_append]
  simp
theorem textsV_len {L : List VarV} (hl : ∀ v ∈ L, v.ls.length ≤ 2000) (k : Nat) : (textsV (L.take k)).length ≤ 2002 * k := by
  induction k with
  | zero => simp [textsV]
  | succ k ih =>
    by_cases h : k < L.length
    · rw [textsV_take h, List.length_append, List.length_append]
      have := hl _ (List.getElem_mem h)
      simp
      omega
    · rw [List.take_of_length_le (by omega)]
      rw [List.take_of_length_le (by omega)] at ih
      omega
/-- a row of texts that is built -/
structure TxD (w0 : World) (cs : Array Value) (v : Value) (l : List ByteArray) (w : World) : Prop where
  own : w.ownsRow w0.heap.size 9 1 v l.length (l.map Value.string)
  below : Below w0.heap.size w0 w
  box : Blk w w0.heap.size 28 cs
theorem TxD.append {w0 w w' : World} {cs : Array Value} {v v' : Value} {l m : List ByteArray} (h : TxD w0 cs v l w) (hg : w.grownBy w' v.ownBlock) (ho : w'.ownsRow w0.heap.size 9 1 v' (l.length + m.length) ((l ++ m).map Value.string)) : TxD w0 cs v' (l ++ m) w' :=
  ⟨by rw [List.length_append]; exact ho, h.below.grown hg h.below.size (fun g hg => (h.own.lt g hg).1), h.box.grown hg fun e => own_blk h.own h.box (by decide) _ e rfl⟩
theorem TxD.keep {w0 w w' : World} {cs : Array Value} {v : Value} {l : List ByteArray} (h : TxD w0 cs v l w) (hb : Below w.heap.size w w') : TxD w0 cs v l w' :=
  ⟨own_keep h.own hb, h.below.trans (hb.mono h.below.size), h.box.keep hb⟩
def TextsP (S : ShV) (w : World) (e : Ending) (w' : World) : Prop := ∃ A c, e = .returned (.slice A (textsL S).length c) ∧ SL w' (.slice A (textsL S).length c) (textsL S) ∧ Below w.heap.size w w'
set_option maxRecDepth 100000 in
set_option maxHeartbeats 3200000 in
theorem texts_any (S : ShV) (p : ShP) (w : World) (hm : ShM w S p) (hs : Small S) : Calls Tryz.prog 26 #[.agg (cellsS S p)] w (TextsP S w) := by
  obtain ⟨⟨arA, arn, arc⟩, ⟨vA, vn, vc⟩⟩ := p
  obtain ⟨har, hvs⟩ := hm
  obtain rfl := SL.len har
  obtain ⟨rfl, _, _, _⟩ := VL.at hvs
  obtain ⟨Q, hQ⟩ : ∃ Q, TextsP S w = Q := ⟨_, rfl⟩
  rw [hQ]
  have HQ := Lib.hid hQ
  have HAR := Lib.hid har
  have HVS := Lib.hid hvs
  have HS := Lib.hid hs
  have ha := hs.ar
  have hv := hs.vs
  clear hQ har hvs hs
  obtain ⟨cs, hcs⟩ : ∃ cs : Array Value, cs = #[.string S.nm, .slice arA S.ar.length arc, .slice vA S.vs.length vc, .slice none 0 0, .slice none 0 0, .int .i64 S.op, .int .i64 S.st, .int .i64 S.msk, .string S.dr] := ⟨_, rfl⟩
  have HCS := Lib.hid hcs
  have hown0 : ((w.alloc (.cells #[.string S.nm, .slice arA S.ar.length arc, .slice vA S.vs.length vc, .slice none 0 0, .slice none 0 0, .int .i64 S.op, .int .i64 S.st, .int .i64 S.msk, .string S.dr] 28)).alloc (.cells #[.string S.nm, .string S.dr] 9)).ownsRow w.heap.size 9 1 (.slice (some ⟨w.heap.size + 1, 0, none⟩) 2 2) 2 (([S.nm, S.dr] : List ByteArray).map Value.string) := by
    have := World.ownsRow_lit (base := w.heap.size) (e := 9) (size := 1) (w.alloc (.cells #[.string S.nm, .slice arA S.ar.length arc, .slice vA S.vs.length vc, .slice none 0 0, .slice none 0 0, .int .i64 S.op, .int .i64 S.st, .int .i64 S.msk, .string S.dr] 28)) #[.string S.nm, .string S.dr] 2 (by simp) (by decide) rfl
    rw [show (w.alloc (.cells #[.string S.nm, .slice arA S.ar.length arc, .slice vA S.vs.length vc, .slice none 0 0, .slice none 0 0, .int .i64 S.op, .int .i64 S.st, .int .i64 S.msk, .string S.dr] 28)).heap.size = w.heap.size + 1 by simp] at this
    exact this
  have HD0 : Hid (TxD w cs _ [S.nm, S.dr] _) := Lib.hid ⟨hown0, ((Below.refl _ _).alloc (Nat.le_refl _) _).alloc (by simp) _, by rw [hcs]; exact (Blk.new w _ _ rfl).alloc _⟩
  have HAR0 := Lib.hid (HAR.out.keep (((Below.refl _ w).alloc (Nat.le_refl _) (.cells #[.string S.nm, .slice arA S.ar.length arc, .slice vA S.vs.length vc, .slice none 0 0, .slice none 0 0, .int .i64 S.op, .int .i64 S.st, .int .i64 S.msk, .string S.dr] 28)).alloc (by simp) (.cells #[.string S.nm, .string S.dr] 9)))
  clear hown0 hcs
  show Calls _ _ #[.agg #[.string S.nm, .slice arA S.ar.length arc, .slice vA S.vs.length vc, .slice none 0 0, .slice none 0 0, .int .i64 S.op, .int .i64 S.st, .int .i64 S.msk, .string S.dr]] w Q
  go_enter Tryz.func26, Tryz.ntmps26
  go_wp2_with (at_builtin; refine app_sl rfl _ _ rfl w.heap.size _ 2 [S.nm, S.dr] rfl HD0.out.own _ S.ar rfl HAR0.out (by omega) (by first | (simp; done) | (simp; omega)) ?_)
  intro v1 w1 hown1 hg1
  have HD1 := Lib.hid (HD0.out.append hg1 hown1)
  clear HD0 HAR0 hown1 hg1
  have b2 : w1.cell? ⟨w.heap.size, 2, none⟩ = some (.slice vA S.vs.length vc) := (HD1.out.box.cell.1 2).trans (by rw [HCS.out]; rfl)
  go_wp2_with fail
  have HL0 := Lib.hid (show ([S.nm, S.dr] ++ S.ar ++ textsV (S.vs.take 0) : List ByteArray) = [S.nm, S.dr] ++ S.ar by simp [textsV])
  have HBd := Lib.hid (fun k => textsV_len HS.out.ls k)
  clear HS HAR
  go_loopw [3, 21] (fun s3 s21 wr => ∃ (k : Nat) (l : List ByteArray), s21 = .int .i64 (k : Int) ∧ Hid (l = [S.nm, S.dr] ++ S.ar ++ textsV (S.vs.take k)) ∧ Hid (k ≤ S.vs.length) ∧ Hid (TxD w cs s3 l wr)) (fun _ s21 _ => S.vs.length - (intOf s21).toNat)
  case atStart => exact ⟨0, [S.nm, S.dr] ++ S.ar, rfl, Lib.hid HL0.out.symm, Lib.hid (Nat.zero_le _), HD1⟩
  case round =>
    clear HD1 HL0
    obtain ⟨k, l, rfl, HL, HK, HD⟩ := hrel
    by_cases hlt : k < S.vs.length
    · have hltz : (k : Int) < (S.vs.length : Int) := by omega
      have hk1 : IntKind.i64.wrap ((k : Int) + 1) = ((k + 1 : Nat) : Int) := IntWalk.i64_in _ (by omega)
      have HK1 := Lib.hid (show k + 1 ≤ S.vs.length from hlt)
      obtain ⟨_, _, _, hat⟩ := VL.at HVS.out
      obtain ⟨b, off, sl, hA, hb, hsl, d0, d1, d2, d3, d4, d5⟩ := hat k hlt
      have hcc : ∀ i, wr.cell? ⟨b, i, none⟩ = w.cell? ⟨b, i, none⟩ := fun i => HD.out.below.cell (p := ⟨b, i, none⟩) hb
      have c0 := (hcc _).trans d0
      have c1 := (hcc _).trans d1
      have c2 := (hcc _).trans d2
      have c3 := (hcc _).trans d3
      have c4 := (hcc _).trans d4
      have c5 := (hcc _).trans d5
      clear hat hcc d0 d1 d2 d3 d4 d5 hb
      subst hA
      have HL1 := Lib.hid (show l ++ [S.vs[k].nm, S.vs[k].vl] ++ S.vs[k].ls = [S.nm, S.dr] ++ S.ar ++ textsV (S.vs.take (k + 1)) by rw [textsV_take hlt, HL.out]; simp only [List.append_assoc]; rfl)
      have hbd : l.length + 2 + S.vs[k].ls.length ≤ 100000000 := by
        have h1 := congrArg List.length HL1.out
        have h2 := HBd.out (k + 1)
        rw [List.length_append, List.length_append, List.length_append, List.length_append] at h1
        simp at h1
        omega
      generalize S.vs[k] = x at *
      obtain ⟨xn, xv, xi, xl, xe, xf⟩ := x
      obtain ⟨lA, ln, lc⟩ := sl
      obtain rfl := SL.len hsl
      simp only [] at HL1 hbd hsl c0 c1 c2 c3 c4 c5
      unfold sv at c3
      have hb2 := (Below.refl wr.heap.size wr).alloc (Nat.le_refl _) (.cells #[.string xn, .string xv, .bool xi, .slice lA xl.length lc, .bool xe, .bool xf] 32)
      have HSL := Lib.hid hsl
      have HD2 := Lib.hid (HD.out.keep hb2)
      have hbx : Blk (wr.alloc (.cells #[.string xn, .string xv, .bool xi, .slice lA xl.length lc, .bool xe, .bool xf] 32)) wr.heap.size 32 #[.string xn, .string xv, .bool xi, .slice lA xl.length lc, .bool xe, .bool xf] := Blk.new wr _ _ rfl
      have HBX := Lib.hid hbx
      clear hsl HL HK HD hb2 hbx
      go_upto_region 5 with fail
      obtain ⟨g, hg⟩ : ∃ g, g = wr.heap.size := ⟨_, rfl⟩
      obtain ⟨w2, hw2⟩ : ∃ w2, w2 = wr.alloc (.cells #[.string xn, .string xv, .bool xi, .slice lA xl.length lc, .bool xe, .bool xf] 32) := ⟨_, rfl⟩
      rw [← hg, ← hw2] at HBX ⊢
      rw [← hw2] at HD2
      clear hw2 hg c0 c1 c2 c3 c4 c5
      have hS : w2.drew.cell? ⟨g, 0, none⟩ = some (.string xn) ∧ w2.drew.cell? ⟨g, 1, none⟩ = some (.string xv) ∧ w2.drew.cell? ⟨g, 3, none⟩ = some (.slice lA xl.length lc) := ⟨HBX.out.cell.1 0, HBX.out.cell.1 1, HBX.out.cell.1 3⟩
      refine wp_region_tail 10 (fun W => W.cell? ⟨g, 0, none⟩ = some (.string xn) ∧ W.cell? ⟨g, 1, none⟩ = some (.string xv) ∧ W.cell? ⟨g, 3, none⟩ = some (.slice lA xl.length lc)) (by kernel_rfl) (by decide) ?_
      refine wpAnyT_take 99 0 (v := ?_) (by kernel_rfl) rfl (by kernel_rfl) (fun _ _ _ h => h) (Or.inl ⟨by rfl, fun W hW => ?_⟩) (by with_reducible assumption) ?_
      rotate_left
      focus ((try dsimp only at hW); go_simp; try with_reducible rfl)
      refine wpAnyT_take 99 1 (v := ?_) (by kernel_rfl) rfl (by kernel_rfl) (fun _ _ _ h => h) (Or.inl ⟨by rfl, fun W hW => ?_⟩) (by with_reducible assumption) ?_
      rotate_left
      focus ((try dsimp only at hW); go_simp; try with_reducible rfl)
      refine wpAnyT_take 99 2 (v := ?_) (by kernel_rfl) rfl (by kernel_rfl) (fun _ _ _ h => h) (Or.inl ⟨by rfl, fun W hW => ?_⟩) (by with_reducible assumption) ?_
      rotate_left
      focus ((try dsimp only at hW); go_simp; try with_reducible rfl)
      refine wpAnyT_take 99 3 (v := ?_) (by kernel_rfl) rfl (by kernel_rfl) (fun _ _ _ h => h) (Or.inl ⟨by rfl, fun W hW => ?_⟩) (by with_reducible assumption) ?_
      rotate_left
      focus ((try dsimp only at hW); go_simp; try with_reducible rfl)
      refine wpAnyT_take 99 4 (v := ?_) (by kernel_rfl) rfl (by kernel_rfl) (fun _ _ _ h => h) (Or.inl ⟨by rfl, fun W hW => ?_⟩) (by with_reducible assumption) ?_
      rotate_left
      focus ((try dsimp only at hW); go_simp; try with_reducible rfl)
      refine wpAnyT_take 99 7 (v := ?_) (by kernel_rfl) rfl (by kernel_rfl) (fun _ _ _ h => h) (Or.inl ⟨by rfl, fun W hW => ?_⟩) (by with_reducible assumption) ?_
      rotate_left
      focus ((try dsimp only at hW); go_simp; try with_reducible rfl)
      refine wpAnyT_take 99 8 (v := ?_) (by kernel_rfl) rfl (by kernel_rfl) (fun _ _ _ h => h) (Or.inl ⟨by rfl, fun W hW => ?_⟩) (by with_reducible assumption) ?_
      rotate_left
      focus ((try dsimp only at hW); go_simp; try with_reducible rfl)
      simp only [Act.put, List.getElem_toArray, List.getElem_cons_zero, List.getElem_cons_succ, List.setIfInBounds_toArray, List.set_cons_zero, List.set_cons_succ]
      refine wpAnyT_one 5 (by kernel_rfl) (by decide) ?_
      refine wpOp_at rfl rfl (fun K hK => ?_)
      go_simp
      have hba : Below w2.heap.size w2 (w2.alloc (.cells #[.string xn, .string xv] 9)).drew := ((Below.refl _ w2).alloc (Nat.le_refl _) _).drew
      have hbx3 := HBX.out.keep hba
      have HD3 := Lib.hid (HD2.out.keep hba)
      have HLIT : Hid (SL (w2.alloc (.cells #[.string xn, .string xv] 9)).drew (.slice (some ⟨w2.heap.size, 0, none⟩) 2 2) [xn, xv]) := Lib.hid (SL.of_own (World.ownsRow_lit (base := w2.heap.size) (e := 9) (size := 1) w2 #[.string xn, .string xv] 2 (Nat.le_refl _) (by decide) rfl : (w2.alloc (.cells #[.string xn, .string xv] 9)).ownsRow w2.heap.size 9 1 (.slice (some ⟨w2.heap.size, 0, none⟩) 2 2) 2 (([xn, xv] : List ByteArray).map Value.string)))
      have hS3 : (w2.alloc (.cells #[.string xn, .string xv] 9)).drew.cell? ⟨g, 0, none⟩ = some (.string xn) ∧ (w2.alloc (.cells #[.string xn, .string xv] 9)).drew.cell? ⟨g, 1, none⟩ = some (.string xv) ∧ (w2.alloc (.cells #[.string xn, .string xv] 9)).drew.cell? ⟨g, 3, none⟩ = some (.slice lA xl.length lc) := ⟨hbx3.cell.1 0, hbx3.cell.1 1, hbx3.cell.1 3⟩
      have HB3 := Lib.hid hbx3
      clear hS hbx3 hba HBX HD2
      refine hK.out _ _ ⟨hS3, ?_⟩
      clear hK K
      generalize (w2.alloc (.cells #[.string xn, .string xv] 9)).drew = w3 at *
      refine wpAnyT_one 6 (by kernel_rfl) (by decide) ?_
      refine wpOp_at rfl rfl (fun K hK => ?_)
      refine wp_sl _ _ (by rfl) w.heap.size u3 l.length l (by rfl) HD3.out.own _ [xn, xv] (by rfl) HLIT.out (by simp; omega) HD3.out.below.size ?_
      intro v4 w4 hown4 hg4
      have HD4 := Lib.hid (HD3.out.append hg4 hown4)
      have hne : u3.ownBlock ≠ some g := fun e => own_blk HD3.out.own HB3.out (by decide) _ e rfl
      have HB4 := Lib.hid (HB3.out.grown hg4 hne)
      have hS4 : w4.cell? ⟨g, 0, none⟩ = some (.string xn) ∧ w4.cell? ⟨g, 1, none⟩ = some (.string xv) ∧ w4.cell? ⟨g, 3, none⟩ = some (.slice lA xl.length lc) := ⟨HB4.out.cell.1 0, HB4.out.cell.1 1, HB4.out.cell.1 3⟩
      clear hS3 HLIT HD3 HB3 hne hown4 hg4
      refine hK.out _ _ ⟨hS4, ?_⟩
      clear hK K
      simp only [Act.put, List.setIfInBounds_toArray]
      refine wpAnyT_one 9 (by kernel_rfl) (by decide) ?_
      refine wpOp_at rfl rfl (fun K hK => ?_)
      refine wp_sl _ _ (by rfl) w.heap.size v4 _ (l ++ [xn, xv]) (by rfl) HD4.out.own _ xl (by rfl) (HSL.out.keep HD4.out.below) (by simp; omega) HD4.out.below.size ?_
      intro v5 w5 hown5 hg5
      have HD5 := Lib.hid (HD4.out.append hg5 hown5)
      have hne : v4.ownBlock ≠ some g := fun e => own_blk HD4.out.own HB4.out (by decide) _ e rfl
      have hbx5 := HB4.out.grown hg5 hne
      have hS5 : w5.cell? ⟨g, 0, none⟩ = some (.string xn) ∧ w5.cell? ⟨g, 1, none⟩ = some (.string xv) ∧ w5.cell? ⟨g, 3, none⟩ = some (.slice lA xl.length lc) := ⟨hbx5.cell.1 0, hbx5.cell.1 1, hbx5.cell.1 3⟩
      clear hS4 HD4 HB4 hne hown5 hg5 hbx5
      refine hK.out _ _ ⟨hS5, ?_⟩
      clear hK K hS5
      simp only [Act.put]
      refine ⟨by kernel_rfl, ?_⟩
      simp only [List.drop_succ_cons, List.drop_zero]
      go_wp2_with fail
      exact ⟨⟨k + 1, _, by simp, HL1, HK1, HD5⟩, by simp [intOf]; omega⟩
    · have hltz : ¬ (k : Int) < (S.vs.length : Int) := by omega
      have HL1 := Lib.hid (show l = textsL S by rw [HL.out, List.take_of_length_le (by omega)]; simp [textsL])
      have b3 : wr.cell? ⟨w.heap.size, 3, none⟩ = some (.slice none 0 0) := (HD.out.box.cell.1 3).trans (by rw [HCS.out]; rfl)
      have b4 : wr.cell? ⟨w.heap.size, 4, none⟩ = some (.slice none 0 0) := (HD.out.box.cell.1 4).trans (by rw [HCS.out]; rfl)
      clear HL HK
      go_wp2_with fail
      refine wp_loop_rounds 1 ?_
      rw [rounds_succ]
      go_wp2_with fail
      refine wp_loop_rounds 1 ?_
      rw [rounds_succ]
      obtain ⟨A5, c5, hu3⟩ := own_form HD.out.own
      have HFIN := Lib.hid (show TextsP S w (.returned u3) wr by
        have hoo := HD.out.own
        rw [hu3] at hoo ⊢
        rw [HL1.out] at hoo ⊢
        exact ⟨A5, c5, rfl, SL.of_own hoo, HD.out.below⟩)
      clear hu3
      go_wp2_with fail
      rw [← HQ.out]
      exact HFIN.out
end Go.Proofs.YtiapondfajmkaaaGreatDoor
