/- Shell variables: put. -/
import Derived.Test.YtiapondfajmkaaaGreatDoorSvR
namespace Go.Proofs.YtiapondfajmkaaaGreatDoor
open Go.RowKit

/-- nothing is changed but block b and what is from B on -/
structure Part (B b : Nat) (w w' : World) : Prop where
  os : w'.os = w.os
  tape : w'.tape = w.tape
  output : w'.output = w.output
  size : w.heap.size ≤ w'.heap.size
  block : ∀ k, k < B → k ≠ b → w'.heap[k]? = w.heap[k]?
theorem Part.below {B b : Nat} {w w' : World} (h : Below w.heap.size w w') (hB : B ≤ w.heap.size) : Part B b w w' := ⟨h.os, h.tape, h.output, h.size, fun k hk _ => h.block k (Nat.lt_of_lt_of_le hk hB)⟩
theorem Part.of_below {B b : Nat} {w w' : World} (h : Below B w w') : Part B b w w' := ⟨h.os, h.tape, h.output, h.size, fun k hk _ => h.block k hk⟩
theorem Part.trans {B b : Nat} {w w' w'' : World} (h : Part B b w w') (k : Part B b w' w'') : Part B b w w'' := ⟨k.os.trans h.os, k.tape.trans h.tape, k.output.trans h.output, Nat.le_trans h.size k.size, fun j hj hne => (k.block j hj hne).trans (h.block j hj hne)⟩
theorem Part.grown {B b g : Nat} {w w' : World} (h : w.grownBy w' (some g)) (hg : B ≤ g) (hB : B ≤ w.heap.size) : Part B b w w' := ⟨h.os, h.tape, h.output, h.size, fun k hk _ => h.block k (Nat.lt_of_lt_of_le hk hB) (fun e => by injection e with e; omega)⟩
theorem Part.setCell {B b : Nat} (w : World) (i : Nat) (v : Value) : Part B b w (w.setCell ⟨b, i, none⟩ v) := ⟨rfl, rfl, rfl, by simp [World.setCell], fun k _ hne => Below.heap_setCell w ⟨b, i, none⟩ v k hne⟩
theorem KeepT.grown {w w' : World} {g : Nat} {T : TypeId} {cs : Array Value} (h : w.grownBy w' (some g)) (hb : Blk w g T cs) (hT : T ≠ 9) : KeepT w w' :=
  ⟨h.size, fun k hk => by
    obtain ⟨cs', fr, hk⟩ := hk
    refine h.block k (Array.getElem?_eq_some_iff.1 hk).1 (fun e => ?_)
    injection e with e
    subst e
    unfold Blk at hb
    rw [hb] at hk
    injection hk with hk
    injection hk with _ hk _
    exact hT hk⟩
/-- the cells of a state -/
def cS (S : ShV) (A V : SV) : Array Value := #[.string S.nm, sv A, sv V, .slice none 0 0, .slice none 0 0, .int .i64 S.op, .int .i64 S.st, .int .i64 S.msk, .string S.dr]
/-- a state in a box -/
structure InBox (B b : Nat) (w : World) (S : ShV) (A V : SV) (P : List VE) : Prop where
  blk : Blk w b 28 (cS S A V)
  vo : VO B w (sv V) P
  map : P.map Prod.fst = S.vs
  ar : SL w (sv A) S.ar
  lt : b < B
  le : B ≤ w.heap.size
theorem InBox.keep {B b : Nat} {w w' : World} {S : ShV} {A V : SV} {P : List VE} (h : InBox B b w S A V P) (hb : Below w.heap.size w w') : InBox B b w' S A V P := ⟨h.blk.keep hb, h.vo.keep hb, h.map, h.ar.keep hb, h.lt, Nat.le_trans h.le hb.size⟩
/-- another box is changed -/
theorem InBox.far {B b : Nat} {w : World} {S : ShV} {A V : SV} {P : List VE} (h : InBox B b w S A V P) {k : Nat} {T : TypeId} {cs : Array Value} (hk : Blk w k T cs) (hT : T ≠ 9) (hkb : k ≠ b) (hne : (sv V).ownBlock ≠ some k) (i : Nat) (u : Value) : InBox B b (w.setCell ⟨k, i, none⟩ u) S A V P :=
  ⟨h.blk.far (by exact fun e => hkb e.symm) u, ⟨h.vo.own.kept (grown_set w k i u) (.inr hne), fun p hp => (h.vo.ls p hp).keepT (KeepT.setCell hk hT i u)⟩, h.map, h.ar.keepT (KeepT.setCell hk hT i u), h.lt, by simpa [World.setCell] using h.le⟩
theorem VO.blk2 {B : Nat} {w : World} {g c n : Nat} {P : List VE} (h : VO B w (.slice (some ⟨g, 0, none⟩) n c) P) (hn : n = P.length) : ∃ cur, Blk w g 32 cur := by
  subst hn
  exact h.blk
theorem InBox.len {B b : Nat} {w : World} {S : ShV} {A V : SV} {P : List VE} (h : InBox B b w S A V P) : P.length = S.vs.length := by rw [← h.map, List.length_map]
theorem VO.put6 {B : Nat} {w : World} {g c n : Nat} {P : List VE} (hn : n = P.length) (h : VO B w (.slice (some ⟨g, 0, none⟩) n c) P) (i : Nat) (hi : i < P.length) (q : VE) (hs : SL w (sv q.2) q.1.ls) : VO B (set6 w g (i * 6) (.string q.1.nm) (.string q.1.vl) (.bool q.1.il) (sv q.2) (.bool q.1.ex) (.bool q.1.fx)) (.slice (some ⟨g, 0, none⟩) n c) (P.set i q) := by
  subst hn
  obtain ⟨cur, hb⟩ := h.blk
  have hk := set6_keepT hb (by decide) (i * 6) (.string q.1.nm) (.string q.1.vl) (.bool q.1.il) (sv q.2) (.bool q.1.ex) (.bool q.1.fx)
  refine ⟨?_, fun p hp => SL.keepT ?_ hk⟩
  · have h0 := (h.own.stored (i * 6) (.string q.1.nm)).1
    have h1 := (h0.stored (i * 6 + 1) (.string q.1.vl)).1
    have h2 := (h1.stored (i * 6 + 2) (.bool q.1.il)).1
    have h3 := (h2.stored (i * 6 + 3) (sv q.2)).1
    have h4 := (h3.stored (i * 6 + 4) (.bool q.1.ex)).1
    have h5 := (h4.stored (i * 6 + 5) (.bool q.1.fx)).1
    rw [prV_set P i q hi] at h5
    rw [List.length_set]
    exact h5
  · rcases List.mem_or_eq_of_mem_set hp with hp | rfl
    · exact h.ls p hp
    · exact hs
theorem setCell_drew (w : World) (p : Addr) (v : Value) : w.drew.setCell p v = (w.setCell p v).drew := rfl
theorem set6_drew (w : World) (b o : Nat) (v0 v1 v2 v3 v4 v5 : Value) : set6 w.drew b o v0 v1 v2 v3 v4 v5 = (set6 w b o v0 v1 v2 v3 v4 v5).drew := by
  unfold set6
  rw [setCell_drew, setCell_drew, setCell_drew, setCell_drew, setCell_drew, setCell_drew]
theorem set6_part {B b g : Nat} (hg : B ≤ g) (w : World) (o : Nat) (v0 v1 v2 v3 v4 v5 : Value) : Part B b w (set6 w g o v0 v1 v2 v3 v4 v5) :=
  Part.of_below (set6_below (Below.refl B w) hg o v0 v1 v2 v3 v4 v5)
theorem map_put {P : List VE} {L : List VarV} (hm : P.map Prod.fst = L) {x : VarV} {s : SV} (h : hasV L x.nm = true) : (P.set (cntV L x.nm) (x, s)).map Prod.fst = setV L x := by
  obtain ⟨hl, _, _⟩ := getD_yes h
  rw [List.map_set, hm]
  unfold setV
  rw [if_pos h, List.set_eq_take_append_cons_drop, if_pos hl]
theorem map_ins {P : List VE} {L : List VarV} (hm : P.map Prod.fst = L) {x : VarV} {s : SV} (h : hasV L x.nm = false) : (P.take (cntV L x.nm) ++ (x, s) :: P.drop (cntV L x.nm)).map Prod.fst = setV L x := by
  rw [List.map_append, List.map_cons, List.map_take, List.map_drop, hm]
  unfold setV
  rw [h]
  rfl
def PutP (B b : Nat) (S : ShV) (A V0 : SV) (x : VarV) (w : World) (e : Ending) (w' : World) : Prop := e = .returned (.tuple #[]) ∧ (∃ V P, InBox B b w' (putS S x) A V P) ∧ Part B b w w' ∧ KeepT w w' ∧ (∀ k, k < w.heap.size → k ≠ b → (sv V0).ownBlock ≠ some k → w'.heap[k]? = w.heap[k]?)
set_option maxRecDepth 100000 in
set_option maxHeartbeats 3200000 in
theorem put_any (B b : Nat) (S : ShV) (A V : SV) (P : List VE) (x : VarV) (s : SV) (w : World) (h : InBox B b w S A V P) (hr : Rises S.vs) (h0 : 0 < S.vs.length) (hn : S.vs.length ≤ 1999) (hs : SL w (sv s) x.ls) :
    Calls Tryz.prog 93 #[.pointer (some ⟨b, 0, none⟩), aggV (x, s)] w (PutP B b S A V x w) := by
  obtain ⟨Q, hQ⟩ : ∃ Q, PutP B b S A V x w = Q := ⟨_, rfl⟩
  rw [hQ]
  have HQ := Lib.hid (fun e w' (h : PutP B b S A V x w e w') => (show Q e w' from hQ ▸ h))
  clear hQ
  have hPl := h.len
  obtain ⟨VA, Vn, Vc⟩ := V
  obtain ⟨g, c, hV⟩ := own_some h.vo.own (by omega)
  obtain ⟨rfl, rfl, hcc⟩ : VA = some ⟨g, 0, none⟩ ∧ Vn = P.length ∧ c = Vc := by injection hV with a b c; exact ⟨a, b, c.symm⟩
  subst hcc
  obtain ⟨n, hnn⟩ : ∃ n, n = P.length := ⟨_, rfl⟩
  rw [← hnn] at h hV hPl
  have HNN := Lib.hid hnn
  obtain ⟨sA, sn, sc⟩ := s
  obtain ⟨vb, hvb⟩ : ∃ vb, vb = w.heap.size := ⟨_, rfl⟩
  have HVB := Lib.hid hvb
  obtain ⟨W0, hW0⟩ : ∃ W0, W0 = w.alloc (.cells #[.string x.nm, .string x.vl, .bool x.il, .slice sA sn sc, .bool x.ex, .bool x.fx] 32) := ⟨_, rfl⟩
  have hb0 : Below w.heap.size w W0 := by rw [hW0]; exact (Below.refl _ w).alloc (Nat.le_refl _) _
  have HX0 : Hid (Blk W0 vb 32 #[.string x.nm, .string x.vl, .bool x.il, .slice sA sn sc, .bool x.ex, .bool x.fx]) := Lib.hid (by rw [hW0]; exact Blk.new w _ _ hvb.symm)
  have HI0 := Lib.hid (h.keep hb0)
  have HSL0 := Lib.hid (hs.keep hb0)
  have HW0 := Lib.hid hW0
  have HB0 := Lib.hid hb0
  have HSK := Lib.hid (seek_any S.vs x.nm (some ⟨g, 0, none⟩) n c b W0 (HI0.out.blk.cell.1 2) (by have := HI0.out.vo.vl; rw [HI0.out.map] at this; exact this) hr (by omega))
  have HR := Lib.hid hr
  have hgB : B ≤ g := (h.vo.own.lt g rfl).1
  have hbB := h.lt
  have HBH := Lib.hid h.le
  have HI0g := Lib.hid (h.vo.own.lt g rfl).2
  clear hW0 hvb hb0 h hs hr hnn hV
  unfold SeekP at HSK
  cases hh : hasV S.vs x.nm
  · rw [hh] at HSK
    have hkl : cntV S.vs x.nm ≤ S.vs.length := cntV_le _ _
    have HMP := Lib.hid (map_ins HI0.out.map (s := (sA, sn, sc)) hh)
    obtain ⟨k, hk⟩ : ∃ k, k = cntV S.vs x.nm := ⟨_, rfl⟩
    rw [← hk] at HSK HMP hkl
    have hkn : k ≤ n := by omega
    have HPL := Lib.hid hPl
    have hn2 : n ≤ 1999 := by omega
    clear hh hk hkl hPl hn h0
    unfold aggV sv
    go_enter Tryz.func93, Tryz.ntmps93
    go_upto_region 1 with fail
    rw [← HVB.out, ← HW0.out]
    have x0 := HX0.out.cell.1 0
    simp at x0
    go_upto_region 4 with (go_at_call 54; refine HSK.out.mono ?_; rintro e w2 ⟨rfl, hb2⟩)
    have HX2 := Lib.hid (HX0.out.keep hb2)
    have HI2 := Lib.hid (HI0.out.keep hb2)
    have HSL2 := Lib.hid (HSL0.out.keep hb2)
    have HB2 := Lib.hid (HB0.out.trans (hb2.mono HB0.out.size))
    obtain ⟨q0, q1, q2, q3, q4, q5, qf⟩ := HX2.out.six
    have cb : w2.cell? ⟨b, 2, none⟩ = some (.slice (some ⟨g, 0, none⟩) n c) := HI2.out.blk.cell.1 2
    clear hb2 HX0 HI0 HSL0 HB0 HSK x0
    have hS : w2.drew.cell? ⟨b, 2, none⟩ = some (.slice (some ⟨g, 0, none⟩) n c) ∧ w2.drew.cell? ⟨vb, 0, none⟩ = some (.string x.nm) ∧ w2.drew.cell? ⟨vb, 1, none⟩ = some (.string x.vl) ∧ w2.drew.cell? ⟨vb, 2, none⟩ = some (.bool x.il) ∧ w2.drew.cell? ⟨vb, 3, none⟩ = some (.slice sA sn sc) ∧ w2.drew.cell? ⟨vb, 4, none⟩ = some (.bool x.ex) ∧ w2.drew.cell? ⟨vb, 5, none⟩ = some (.bool x.fx) := ⟨cb, q0, q1, q2, q3, q4, q5⟩
    refine wp_region_tail 11 (fun W => W.cell? ⟨b, 2, none⟩ = some (.slice (some ⟨g, 0, none⟩) n c) ∧ W.cell? ⟨vb, 0, none⟩ = some (.string x.nm) ∧ W.cell? ⟨vb, 1, none⟩ = some (.string x.vl) ∧ W.cell? ⟨vb, 2, none⟩ = some (.bool x.il) ∧ W.cell? ⟨vb, 3, none⟩ = some (.slice sA sn sc) ∧ W.cell? ⟨vb, 4, none⟩ = some (.bool x.ex) ∧ W.cell? ⟨vb, 5, none⟩ = some (.bool x.fx)) (by kernel_rfl) (by decide) ?_
    refine wpAnyT_take 99 0 (v := ?_) (by kernel_rfl) rfl (by kernel_rfl) (fun _ _ _ h => h) (Or.inl ⟨by rfl, fun W hW => ?_⟩) (by with_reducible assumption) ?_
    rotate_left
    focus ((try dsimp only at hW); go_simp; try with_reducible rfl)
    refine wpAnyT_take 99 1 (v := ?_) (by kernel_rfl) rfl (by kernel_rfl) (fun _ _ _ h => h) (Or.inl ⟨by rfl, fun W hW => ?_⟩) (by with_reducible assumption) ?_
    rotate_left
    focus ((try dsimp only at hW); go_simp; try with_reducible rfl)
    refine wpAnyT_take 99 2 (v := ?_) (by kernel_rfl) rfl (by kernel_rfl) (fun _ _ _ h => h) (Or.inl ⟨by rfl, fun W hW => ?_⟩) (by with_reducible assumption) ?_
    rotate_left
    focus ((try dsimp only at hW); go_simp; try with_reducible rfl)
    refine wpAnyT_take 99 3 (v := ?_) (by kernel_rfl) rfl (by kernel_rfl) (fun _ _ _ h => h) (Or.inl ⟨by rfl, fun W hW => ?_⟩) (by with_reducible assumption) ?_
    rotate_left
    focus ((try dsimp only at hW); go_simp; try with_reducible rfl)
    refine wpAnyT_take 99 4 (v := ?_) (by kernel_rfl) rfl (by kernel_rfl) (fun _ _ _ h => h) (Or.inl ⟨by rfl, fun W hW => ?_⟩) (by with_reducible assumption) ?_
    rotate_left
    focus ((try dsimp only at hW); go_simp; try with_reducible rfl)
    refine wpAnyT_take 99 5 (v := ?_) (by kernel_rfl) rfl (by kernel_rfl) (fun _ _ _ h => h) (Or.inl ⟨by rfl, fun W hW => ?_⟩) (by with_reducible assumption) ?_
    rotate_left
    focus ((try dsimp only at hW); go_simp; try with_reducible rfl)
    refine wpAnyT_take 99 6 (v := ?_) (by kernel_rfl) rfl (by kernel_rfl) (fun _ _ _ h => h) (Or.inl ⟨by rfl, fun W hW => ?_⟩) (by with_reducible assumption) ?_
    rotate_left
    focus ((try dsimp only at hW); go_simp; try with_reducible rfl)
    simp only [Act.put, List.getElem_toArray, List.getElem_cons_zero, List.getElem_cons_succ, List.setIfInBounds_toArray, List.set_cons_zero, List.set_cons_succ]
    refine wpAnyT_one 7 (by kernel_rfl) (by decide) ?_
    refine wpOp_at rfl rfl (fun K hK => ?_)
    go_simp
    have hba : Below w2.heap.size w2 (w2.alloc (.cells #[.string x.nm, .string x.vl, .bool x.il, .slice sA sn sc, .bool x.ex, .bool x.fx] 32)).drew := ((Below.refl _ w2).alloc (Nat.le_refl _) _).drew
    obtain ⟨W3, hW3⟩ : ∃ W3, W3 = (w2.alloc (.cells #[.string x.nm, .string x.vl, .bool x.il, .slice sA sn sc, .bool x.ex, .bool x.fx] 32)).drew := ⟨_, rfl⟩
    rw [← hW3] at hba ⊢
    obtain ⟨m, hm⟩ : ∃ m, m = w2.heap.size := ⟨_, rfl⟩
    have hvx : Blk W3 m 32 (cellsV (x, (sA, sn, sc))).toArray := by rw [hW3]; exact (Blk.new w2 _ _ hm.symm).keep (Below.refl _ _).drew
    rw [← hm]
    have HX3 := Lib.hid (HX2.out.keep hba)
    have HI3 := Lib.hid (HI2.out.keep hba)
    have HSL3 := Lib.hid (HSL2.out.keep hba)
    have HB3 := Lib.hid (HB2.out.trans (hba.mono HB2.out.size))
    have hgm : m ≠ g := by
      have := (HI2.out.vo.own.lt g rfl).2
      omega
    have hOwn : W3.ownsRow B 32 6 (.slice (some ⟨g, 0, none⟩) n c) n (prV P) := by
      have := HI3.out.vo.own
      rw [← HNN.out] at this
      exact this
    have HINS := Lib.hid (insert_any B g n c k m P (x, (sA, sn, sc)) W3 hOwn HNN.out (by omega) hkn (Nat.le_trans HBH.out HB3.out.size) hgm hvx)
    have hS3 : W3.cell? ⟨b, 2, none⟩ = some (.slice (some ⟨g, 0, none⟩) n c) ∧ W3.cell? ⟨vb, 0, none⟩ = some (.string x.nm) ∧ W3.cell? ⟨vb, 1, none⟩ = some (.string x.vl) ∧ W3.cell? ⟨vb, 2, none⟩ = some (.bool x.il) ∧ W3.cell? ⟨vb, 3, none⟩ = some (.slice sA sn sc) ∧ W3.cell? ⟨vb, 4, none⟩ = some (.bool x.ex) ∧ W3.cell? ⟨vb, 5, none⟩ = some (.bool x.fx) := ⟨HI3.out.blk.cell.1 2, HX3.out.six.1, HX3.out.six.2.1, HX3.out.six.2.2.1, HX3.out.six.2.2.2.1, HX3.out.six.2.2.2.2.1, HX3.out.six.2.2.2.2.2.1⟩
    obtain ⟨cur, hgb⟩ := HI3.out.vo.blk2 HNN.out
    clear hS hba hvx hm hOwn hW3 q0 q1 q2 q3 q4 q5 qf cb HX2 HI2 HSL2 HB2
    refine hK.out _ _ ⟨hS3, ?_⟩
    clear hK K
    refine wpAnyT_one 8 (by kernel_rfl) (by decide) ?_
    refine wpOp_at rfl rfl (fun K hK => ?_)
    go_simp
    refine HINS.out.mono ?_
    rintro e w4 ⟨g', c', rfl, ho4, hg4⟩
    have hgb' : g ≠ b := by omega
    have hvbg : vb ≠ g := by
      have := HI0g.out
      have := HVB.out
      omega
    have hk4 : KeepT W3 w4 := KeepT.grown hg4 hgb (by decide)
    have HP4 := Lib.hid (show Part B b W3 w4 from Part.grown hg4 hgB (Nat.le_trans HBH.out HB3.out.size))
    have hb4 : Blk w4 b 28 (cS S A (some ⟨g, 0, none⟩, n, c)) := HI3.out.blk.grown hg4 (fun e => by injection e with e; exact hgb' e)
    have hx4 := HX3.out.grown hg4 (fun e => by injection e with e; exact hvbg e.symm)
    have hS4 : w4.cell? ⟨b, 2, none⟩ = some (.slice (some ⟨g, 0, none⟩) n c) ∧ w4.cell? ⟨vb, 0, none⟩ = some (.string x.nm) ∧ w4.cell? ⟨vb, 1, none⟩ = some (.string x.vl) ∧ w4.cell? ⟨vb, 2, none⟩ = some (.bool x.il) ∧ w4.cell? ⟨vb, 3, none⟩ = some (.slice sA sn sc) ∧ w4.cell? ⟨vb, 4, none⟩ = some (.bool x.ex) ∧ w4.cell? ⟨vb, 5, none⟩ = some (.bool x.fx) := ⟨hb4.cell.1 2, hx4.six.1, hx4.six.2.1, hx4.six.2.2.1, hx4.six.2.2.2.1, hx4.six.2.2.2.2.1, hx4.six.2.2.2.2.2.1⟩
    have fb := hb4.cell.2 2
    have hle4 : B ≤ w4.heap.size := Nat.le_trans (Nat.le_trans HBH.out HB3.out.size) hg4.size
    have hvo4 : VO B w4 (.slice (some ⟨g', 0, none⟩) (n + 1) c') (P.take k ++ (x, (sA, sn, sc)) :: P.drop k) := by
      have hlen : (P.take k ++ (x, ((sA, sn, sc) : SV)) :: P.drop k).length = n + 1 := by
        rw [List.length_append, List.length_cons, List.length_take, List.length_drop, ← HNN.out]
        omega
      refine ⟨by rw [hlen]; exact ho4, fun p hp => ?_⟩
      rcases List.mem_append.1 hp with hp | hp
      · exact (HI3.out.vo.ls p (List.mem_of_mem_take hp)).keepT hk4
      · rcases List.mem_cons.1 hp with rfl | hp
        · exact HSL3.out.keepT hk4
        · exact (HI3.out.vo.ls p (List.mem_of_mem_drop hp)).keepT hk4
    have HF := Lib.hid (HQ.out (.returned (.tuple #[])) (w4.setCell ⟨b, 2, none⟩ (.slice (some ⟨g', 0, none⟩) (n + 1) c')) ⟨rfl, ⟨(some ⟨g', 0, none⟩, n + 1, c'), P.take k ++ (x, (sA, sn, sc)) :: P.drop k, ⟨hb4.set_ 2 _, hvo4.far hb4 (by decide) (by decide) 2 _, HMP.out, (HI3.out.ar.keepT hk4).keepT (KeepT.setCell hb4 (by decide) 2 _), HI3.out.lt, by simpa [World.setCell] using hle4⟩⟩, ((Part.below HB3.out HBH.out).trans HP4.out).trans (Part.setCell w4 2 _), ((KeepT.below HB3.out).trans hk4).trans (KeepT.setCell hb4 (by decide) 2 _), fun j hj hjb hjg => (Below.heap_setCell w4 ⟨b, 2, none⟩ _ j hjb).trans ((hg4.block j (Nat.lt_of_lt_of_le hj HB3.out.size) (fun e => hjg e.symm)).trans (HB3.out.block j hj))⟩)
    clear hb4 hx4 hvo4 hk4 ho4 hg4 hS3 HINS
    refine hK.out _ _ ⟨hS4, ?_⟩
    clear hK K
    refine wpAnyT_take 99 9 (v := ?_) (by kernel_rfl) rfl (by kernel_rfl) (fun _ _ _ h => h) (Or.inl ⟨by rfl, fun W hW => ?_⟩) (by with_reducible assumption) ?_
    rotate_left
    focus ((try dsimp only at hW); go_simp; try with_reducible rfl)
    refine wpAnyT_take 99 10 (v := ?_) (by kernel_rfl) rfl (by kernel_rfl) (fun _ _ _ h => h) (Or.inl ⟨by rfl, fun W hW => ?_⟩) (by with_reducible assumption) ?_
    rotate_left
    focus ((try dsimp only at hW); go_simp; try with_reducible rfl)
    simp only [Act.put, List.getElem_toArray, List.getElem_cons_zero, List.getElem_cons_succ, List.setIfInBounds_toArray, List.set_cons_zero, List.set_cons_succ]
    refine ⟨by kernel_rfl, ?_⟩
    simp only [List.drop_succ_cons, List.drop_zero]
    have cb := hS4.1
    clear hS4
    go_wp2_with fail
    go_end0
    exact HF.out
  · rw [hh] at HSK
    obtain ⟨hl, _, _⟩ := getD_yes hh
    have HMP := Lib.hid (map_put HI0.out.map (s := (sA, sn, sc)) hh)
    obtain ⟨k, hk⟩ : ∃ k, k = cntV S.vs x.nm := ⟨_, rfl⟩
    rw [← hk] at HSK HMP hl
    have hkn : k < n := by omega
    have hkz : (k : Int) < (n : Int) := by omega
    have hkz0 : (0 : Int) ≤ (k : Int) := by omega
    have HPL := Lib.hid hPl
    have hn2 : n ≤ 1999 := by omega
    clear hh hk hl hPl hn h0
    unfold aggV sv
    go_enter Tryz.func93, Tryz.ntmps93
    go_upto_region 1 with fail
    rw [← HVB.out, ← HW0.out]
    have x0 := HX0.out.cell.1 0
    simp at x0
    go_upto_region 3 with (go_at_call 54; refine HSK.out.mono ?_; rintro e w2 ⟨rfl, hb2⟩)
    have HX2 := Lib.hid (HX0.out.keep hb2)
    have HI2 := Lib.hid (HI0.out.keep hb2)
    have HSL2 := Lib.hid (HSL0.out.keep hb2)
    have HB2 := Lib.hid (HB0.out.trans (hb2.mono HB0.out.size))
    obtain ⟨q0, q1, q2, q3, q4, q5, qf⟩ := HX2.out.six
    have cb : w2.cell? ⟨b, 2, none⟩ = some (.slice (some ⟨g, 0, none⟩) n c) := HI2.out.blk.cell.1 2
    clear hb2 HX0 HI0 HSL0 HB0 HSK x0
    have hS : w2.drew.cell? ⟨b, 2, none⟩ = some (.slice (some ⟨g, 0, none⟩) n c) ∧ w2.drew.cell? ⟨vb, 0, none⟩ = some (.string x.nm) ∧ w2.drew.cell? ⟨vb, 1, none⟩ = some (.string x.vl) ∧ w2.drew.cell? ⟨vb, 2, none⟩ = some (.bool x.il) ∧ w2.drew.cell? ⟨vb, 3, none⟩ = some (.slice sA sn sc) ∧ w2.drew.cell? ⟨vb, 4, none⟩ = some (.bool x.ex) ∧ w2.drew.cell? ⟨vb, 5, none⟩ = some (.bool x.fx) := ⟨cb, q0, q1, q2, q3, q4, q5⟩
    refine wp_region_tail 7 (fun W => W.cell? ⟨b, 2, none⟩ = some (.slice (some ⟨g, 0, none⟩) n c) ∧ W.cell? ⟨vb, 0, none⟩ = some (.string x.nm) ∧ W.cell? ⟨vb, 1, none⟩ = some (.string x.vl) ∧ W.cell? ⟨vb, 2, none⟩ = some (.bool x.il) ∧ W.cell? ⟨vb, 3, none⟩ = some (.slice sA sn sc) ∧ W.cell? ⟨vb, 4, none⟩ = some (.bool x.ex) ∧ W.cell? ⟨vb, 5, none⟩ = some (.bool x.fx)) (by kernel_rfl) (by decide) ?_
    refine wpAnyT_take 99 0 (v := ?_) (by kernel_rfl) rfl (by kernel_rfl) (fun _ _ _ h => h) (Or.inl ⟨by rfl, fun W hW => ?_⟩) (by with_reducible assumption) ?_
    rotate_left
    focus ((try dsimp only at hW); go_simp; try with_reducible rfl)
    refine wpAnyT_take 99 1 (v := ?_) (by kernel_rfl) rfl (by kernel_rfl) (fun _ _ _ h => h) (Or.inl ⟨by rfl, fun W hW => ?_⟩) (by with_reducible assumption) ?_
    rotate_left
    focus ((try dsimp only at hW); go_simp; try with_reducible rfl)
    refine wpAnyT_take 99 2 (v := ?_) (by kernel_rfl) rfl (by kernel_rfl) (fun _ _ _ h => h) (Or.inl ⟨by rfl, fun W hW => ?_⟩) (by with_reducible assumption) ?_
    rotate_left
    focus ((try dsimp only at hW); go_simp; try with_reducible rfl)
    refine wpAnyT_take 99 3 (v := ?_) (by kernel_rfl) rfl (by kernel_rfl) (fun _ _ _ h => h) (Or.inl ⟨by rfl, fun W hW => ?_⟩) (by with_reducible assumption) ?_
    rotate_left
    focus ((try dsimp only at hW); go_simp; try with_reducible rfl)
    refine wpAnyT_take 99 4 (v := ?_) (by kernel_rfl) rfl (by kernel_rfl) (fun _ _ _ h => h) (Or.inl ⟨by rfl, fun W hW => ?_⟩) (by with_reducible assumption) ?_
    rotate_left
    focus ((try dsimp only at hW); go_simp; try with_reducible rfl)
    refine wpAnyT_take 99 5 (v := ?_) (by kernel_rfl) rfl (by kernel_rfl) (fun _ _ _ h => h) (Or.inl ⟨by rfl, fun W hW => ?_⟩) (by with_reducible assumption) ?_
    rotate_left
    focus ((try dsimp only at hW); go_simp; try with_reducible rfl)
    refine wpAnyT_take 99 6 (v := ?_) (by kernel_rfl) rfl (by kernel_rfl) (fun _ _ _ h => h) (Or.inl ⟨by rfl, fun W hW => ?_⟩) (by with_reducible assumption) ?_
    rotate_left
    focus ((try dsimp only at hW); go_simp; try with_reducible rfl)
    simp only [Act.put, List.getElem_toArray, List.getElem_cons_zero, List.getElem_cons_succ, List.setIfInBounds_toArray, List.set_cons_zero, List.set_cons_succ]
    refine ⟨by kernel_rfl, ?_⟩
    simp only [List.drop_succ_cons, List.drop_zero]
    have hkP : k < P.length := by rw [← HNN.out]; exact hkn
    have hOwn : w2.ownsRow B 32 6 (.slice (some ⟨g, 0, none⟩) n c) n (prV P) := by
      have := HI2.out.vo.own
      rw [← HNN.out] at this
      exact this
    obtain ⟨p0, p1, p2, p3, p4, p5⟩ := prV_at P k hkP
    have r0 := (hOwn.cellAt (k * 6) (by omega)).trans p0
    have r1 := (hOwn.cellAt (k * 6 + 1) (by omega)).trans p1
    have r2 := (hOwn.cellAt (k * 6 + 2) (by omega)).trans p2
    have r3 := (hOwn.cellAt (k * 6 + 3) (by omega)).trans p3
    have r4 := (hOwn.cellAt (k * 6 + 4) (by omega)).trans p4
    have r5 := (hOwn.cellAt (k * 6 + 5) (by omega)).trans p5
    have rf := fun j => hOwn.frozenAt j
    obtain ⟨W3, hW4⟩ : ∃ W3, W3 = (set6 w2 g (k * 6) (.string x.nm) (.string x.vl) (.bool x.il) (.slice sA sn sc) (.bool x.ex) (.bool x.fx)).drew := ⟨_, rfl⟩
    have hW3 : W3 = set6 w2.drew g (k * 6) (.string x.nm) (.string x.vl) (.bool x.il) (.slice sA sn sc) (.bool x.ex) (.bool x.fx) := by rw [hW4, set6_drew]
    have HF := Lib.hid (HQ.out (.returned (.tuple #[])) W3 (by
      have hd2 : Below w2.heap.size w2 w2.drew := (Below.refl _ w2).drew
      have hI := HI2.out.keep hd2
      have hvo := VO.put6 HNN.out hI.vo k hkP (x, (sA, sn, sc)) (HSL2.out.keep hd2)
      obtain ⟨cur, hgb⟩ := hI.vo.blk2 HNN.out
      have hkt : KeepT w2.drew W3 := by rw [hW3]; exact set6_keepT hgb (by decide) _ _ _ _ _ _ _
      have hgb' : g ≠ b := by omega
      refine ⟨rfl, ⟨(some ⟨g, 0, none⟩, n, c), P.set k (x, (sA, sn, sc)), ⟨?_, by rw [hW3]; exact hvo, HMP.out, hI.ar.keepT hkt, hI.lt, ?_⟩⟩, ?_, ?_, fun j hj _ hjg => ?_⟩
      · unfold Blk
        rw [hW3, set6_heap _ _ _ _ _ _ _ _ _ b hgb'.symm]
        exact hI.blk
      · rw [hW3]; exact Nat.le_trans hI.le (set6_part (b := b) hgB w2.drew _ _ _ _ _ _ _).size
      · rw [hW3]
        exact ((Part.below (HB2.out.trans (hd2.mono HB2.out.size)) HBH.out).trans (set6_part hgB w2.drew _ _ _ _ _ _ _))
      · exact (KeepT.below (HB2.out.trans (hd2.mono HB2.out.size))).trans hkt
      · rw [hW3, set6_heap _ _ _ _ _ _ _ _ _ j (fun e => hjg (by rw [e]; rfl))]
        exact (HB2.out.trans (hd2.mono HB2.out.size)).block j hj))
    unfold set6 at hW4
    have HW3 := Lib.hid hW4
    clear hW3 hW4 hS hOwn p0 p1 p2 p3 p4 p5 q0 q1 q2 q3 q4 q5 qf cb
    go_wp2_with fail
    rw [← HW3.out]
    go_end0
    exact HF.out
end Go.Proofs.YtiapondfajmkaaaGreatDoor
