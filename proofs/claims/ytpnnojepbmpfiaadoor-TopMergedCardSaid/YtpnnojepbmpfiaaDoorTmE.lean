/- TopMerged: lists of texts are put together: append of a slice of texts; replaced. -/
import Derived.Test.YtpnnojepbmpfiaaDoorTmD
import Derived.LoopN
namespace Go.Proofs.YtpnnojepbmpfiaaDoor
open Go.RowKit

theorem strInfo : (Tryd.prog.info? 9).map (fun i => (i.zero, i.size, i.bytes)) = some (some (.string ⟨#[]⟩), 1, 16) := by kernel_rfl
theorem strs_one (l : List ByteArray) : ∀ u ∈ l.map Value.string, u.oneCell' = true := fun u hu => by
  obtain ⟨b, _, rfl⟩ := List.mem_map.1 hu
  rfl
theorem run_append_none_c {P : Program} {w : World} (base : Nat) (t ty e : TypeId) (i : TypeInfo) (size c : Nat) (ht : P.underlying t = some (.slice e)) (hi : P.info? e = some i)
    (v : Value) (n : Nat) (xs : List Value) (hown : w.ownsRow base e size v n xs) :
    (Builtin.append_ #[t, t] ty #[v, .slice none 0 c]).run P w = .ok v w := by
  rcases hown.2 with ⟨rfl, rfl⟩ | ⟨g, cap, cur, rfl, _, _, hnc, _⟩
  · simp [Builtin.append_, run_underlying ht, sizeOf, typeInfo, hi, Builtin.lenOf, Builtin.firstCells]
  · simp [Builtin.append_, run_underlying ht, sizeOf, typeInfo, hi, Builtin.lenOf, Builtin.firstCells, hnc, storeCells]
theorem wp_append_none_c {P : Program} {w : World} {o : Oper} {a : Act} {K : Act → World → Prop} {Q : Exit → Act → World → Prop} (s x : Operand) (t : TypeId)
    (ho : o.op = .call { callee := .builtin .append, args := #[s, x], argTypes := #[t, t] })
    (base : Nat) (e : TypeId) (i : TypeInfo) (size c : Nat) (ht : P.underlying t = some (.slice e)) (hi : P.info? e = some i)
    (v : Value) (n : Nat) (xs : List Value) (hs : a.eval s = v) (hown : w.ownsRow base e size v n xs) (hx : a.eval x = .slice none 0 c)
    (h : K (a.put o.dst v) w) : o.wp P a w K Q := by
  have hrun := run_append_none_c (P := P) (w := w) base t o.type e i size c ht hi v n xs hown
  unfold Oper.wp
  simp [execOp, ho, resolve, invoke, builtin, hs, hx, hrun, Result.andThen]
  exact h
theorem sl_cells {ad : Addr} {n c : Nat} {w : World} {l : List ByteArray} (h : SL w (.slice (some ad) n c) l) (j : Nat) (u : Value) (hu : (l.map Value.string)[j]? = some u) : w.cell? (ad.add j) = some u := by
  obtain ⟨A', c', e, _, hc⟩ := h
  injection e with e1 _ _
  have hj : j < l.length := by
    have := (List.getElem?_eq_some_iff.1 hu).1
    simpa using this
  obtain ⟨b, off, e2, _, hcell⟩ := hc (by omega)
  rw [← e1] at e2
  injection e2 with e2
  subst e2
  rw [WideShapes.add_plain, hcell j hj, ← hu]
  simp [hj]
/-- an append of a slice of texts to what is owned -/
theorem wp_sl {w : World} {o : Oper} {a : Act} {K : Act → World → Prop} {Q : Exit → Act → World → Prop} (s x : Operand)
    (ho : o.op = .call { callee := .builtin .append, args := #[s, x], argTypes := #[22, 22] })
    (base : Nat) (v : Value) (n : Nat) (xs : List ByteArray) (hs : a.eval s = v) (hown : w.ownsRow base 9 1 v n (xs.map Value.string)) (u : Value) (L : List ByteArray) (hx : a.eval x = u) (hk : SL w u L)
    (h63 : n + L.length ≤ 100000000) (hbase : base ≤ w.heap.size)
    (h : ∀ v' w', w'.ownsRow base 9 1 v' (n + L.length) ((xs ++ L).map Value.string) → w.grownBy w' v.ownBlock → K (a.put o.dst v') w') : o.wp Tryd.prog a w K Q := by
  obtain ⟨i0, hi, hz0, hz1, hz2⟩ := info_parts strInfo
  have hk0 := hk
  obtain ⟨A, c, rfl, _, hc⟩ := hk
  cases A with
  | none =>
    have hL : L = [] := by
      cases L with
      | nil => rfl
      | cons y L => obtain ⟨_, _, e, _⟩ := hc (by simp); cases e
    subst hL
    exact wp_append_none_c s x 22 ho base 9 i0 1 c Tryd.underlying22 hi v n _ hs hown hx (h v w (by simpa using hown) ⟨rfl, rfl, rfl, Nat.le_refl _, fun _ _ _ => rfl⟩)
  | some ad =>
    exact wp_append_own w s x 22 ho base 9 i0 (.string ⟨#[]⟩) 1 16 Tryd.underlying22 hi hz0 hz1 hz2 rfl (by decide) v n _ hs hown ad L.length c (L.map Value.string) hx (by simp) (sl_cells hk0) (strs_one L) (by unfold maxLen; omega) (by omega) hbase (fun v' w' h1 h2 _ => h v' w' (by rw [List.map_append]; exact h1) h2)
theorem app_sl {w : World} {ops : Array Oper} {rest : List Oper} {o : Oper} {a : Act} {Q : Exit → Act → World → Prop} (hgd : o.guard = none) (s x : Operand)
    (ho : o.op = .call { callee := .builtin .append, args := #[s, x], argTypes := #[22, 22] })
    (base : Nat) (v : Value) (n : Nat) (xs : List ByteArray) (hs : a.eval s = v) (hown : w.ownsRow base 9 1 v n (xs.map Value.string)) (u : Value) (L : List ByteArray) (hx : a.eval x = u) (hk : SL w u L)
    (h63 : n + L.length ≤ 100000000) (hbase : base ≤ w.heap.size)
    (h : ∀ v' w', w'.ownsRow base 9 1 v' (n + L.length) ((xs ++ L).map Value.string) → w.grownBy w' v.ownBlock → wpList Tryd.prog ops Q rest (a.put o.dst v') w') : wpList Tryd.prog ops Q (o :: rest) a w :=
  wpList_plain hgd fun _ hK => wp_sl s x ho base v n xs hs hown u L hx hk h63 hbase fun v' w' h1 h2 => hK _ _ (h v' w' h1 h2)
theorem step_sl {w : World} {ops : Array Oper} {o : Oper} {a : Act} {K : Act → World → Prop} {Q : Exit → Act → World → Prop} {E : Prop} (hgd : o.guard = none) (s x : Operand)
    (ho : o.op = .call { callee := .builtin .append, args := #[s, x], argTypes := #[22, 22] })
    (base : Nat) (v : Value) (n : Nat) (xs : List ByteArray) (hs : a.eval s = v) (hown : w.ownsRow base 9 1 v n (xs.map Value.string)) (u : Value) (L : List ByteArray) (hx : a.eval x = u) (hk : SL w u L)
    (h63 : n + L.length ≤ 100000000) (hbase : base ≤ w.heap.size)
    (h : ∀ v' w', w'.ownsRow base 9 1 v' (n + L.length) ((xs ++ L).map Value.string) → w.grownBy w' v.ownBlock → K (a.put o.dst v') w') :
    if Region.wanted o (yielded ops a.tmps) = true then Oper.wp Tryd.prog o a w K Q else E := by
  have hw : Region.wanted o (yielded ops a.tmps) = true := by simp [Region.wanted, hgd]
  rw [if_pos hw]
  exact wp_sl s x ho base v n xs hs hown u L hx hk h63 hbase h
theorem HL.at {w : World} {A : Option Addr} {n c : Nat} {H : List HK} (h : HL w (.slice A n c) H) : n = H.length ∧ n ≤ c ∧ ∀ i (hi : i < H.length), ∃ b off e, A = some ⟨b, off, none⟩ ∧ b < w.heap.size ∧ IsHK w e H[i] ∧ w.cell? ⟨b, off + i * 4, none⟩ = some (k0 e) ∧ w.cell? ⟨b, off + i * 4 + 1, none⟩ = some (k1 e) ∧ w.cell? ⟨b, off + i * 4 + 2, none⟩ = some (k2 e) ∧ w.cell? ⟨b, off + i * 4 + 3, none⟩ = some (k3 e) := by
  obtain ⟨E, ⟨A', c', e, hc, _, hE⟩, hA⟩ := h
  injection e with e1 e2 e3
  subst e1 e2 e3
  have hl := hA.len
  refine ⟨hl, hc, fun i hi => ?_⟩
  obtain ⟨b, off, rfl, h1, h2⟩ := hE (by omega)
  exact ⟨b, off, E[i]'(by omega), rfl, h1, hA.at i (by omega) hi, h2 i (by omega)⟩
/-- hunks that rise within n lines, from c on -/
def Chain (n : Nat) : Nat → List HK → Prop
  | _, [] => True
  | c, h :: r => c ≤ h.fr ∧ h.fin ≤ n ∧ Chain n h.fin r
theorem Chain.at {n : Nat} : ∀ {H : List HK} {c : Nat}, Chain n c H → ∀ h ∈ H, h.fin ≤ n
  | [], _, _, h, hm => by cases hm
  | k :: H, c, hC, h, hm => by
    rcases List.mem_cons.1 hm with rfl | hm
    · exact hC.2.1
    · exact hC.2.2.at h hm
theorem own_blk {w : World} {B e e' s n k : Nat} {v : Value} {xs : List Value} {cs : Array Value} (h : w.ownsRow B e s v n xs) (hk : Blk w k e' cs) (hne : e ≠ e') (j : Nat) (hj : v.ownBlock = some j) : j ≠ k := by
  rcases h.2 with ⟨rfl, _⟩ | ⟨g, c, cur, rfl, _, hg, _⟩
  · cases hj
  · injection hj with hj
    subst hj
    intro e2
    subst e2
    unfold Blk at hk
    rw [hk] at hg
    injection hg with hg
    injection hg with _ hg
    exact hne hg.symm
theorem Chain.fr_le {n : Nat} : ∀ {H : List HK} {c : Nat}, Chain n c H → ∀ h ∈ H, c ≤ h.fr
  | [], _, _, h, hm => by cases hm
  | k :: H, c, hC, h, hm => by
    rcases List.mem_cons.1 hm with rfl | hm
    · exact hC.1
    · have := hC.2.2.fr_le h hm
      have h1 := hC.1
      have h2 : k.fr ≤ k.fin := Nat.le_add_right _ _
      omega
set_option maxRecDepth 100000 in
set_option maxHeartbeats 6400000 in
theorem replaced_any (l : List ByteArray) (H : List HK) (vl vH : Value) (w : World) (hl : SL w vl l) (hH : HL w vH H) (hC : Chain l.length 0 H) (hll : l.length ≤ 1000) (hHl : H.length ≤ 2000) (hR : (repL l 0 H).length ≤ 10000000) :
    Calls Tryd.prog 28 #[vl, vH] w (Owned w (repL l 0 H)) := by
  obtain ⟨R0, hR0⟩ : ∃ R0, R0 = repL l 0 H := ⟨_, rfl⟩
  rw [← hR0] at hR ⊢
  obtain ⟨Q, hQ⟩ : ∃ Q, Owned w R0 = Q := ⟨_, rfl⟩
  rw [hQ]
  have HQ := Lib.hid hQ
  obtain ⟨A, n, ca, rfl⟩ : ∃ A n c, vl = .slice A n c := by obtain ⟨A, c, rfl, _⟩ := hl; exact ⟨_, _, _, rfl⟩
  obtain ⟨B, k, cb, rfl⟩ : ∃ A n c, vH = .slice A n c := by obtain ⟨E, ⟨A, c, rfl, _⟩, _⟩ := hH; exact ⟨_, _, _, rfl⟩
  have hnl := hl.len
  obtain ⟨hkH, hkc, _⟩ := hH.at
  have hnc : n ≤ ca := by obtain ⟨_, _, e, hc, _⟩ := hl; injection e with e1 e2 e3; omega
  have HN := Lib.hid (And.intro hnl hkH)
  have HSl := Lib.hid hl
  have HH := Lib.hid hH
  have HCh := Lib.hid hC
  have HR := Lib.hid hR0
  have HLn := Lib.hid hR
  have hk2 : k ≤ 2000 := by omega
  have hn2 : n ≤ 1000 := by omega
  clear hQ hl hH hC hR0 hR hll hHl hnl hkH hkc
  go_enter Tryd.func28, Tryd.ntmps28
  go_wp2_with fail
  have HO0 := Lib.hid (World.ownsRow_lit (base := w.heap.size) (e := 9) (size := 1) w #[] 0 (Nat.le_refl _) (by unfold maxLen; omega) rfl)
  go_loopw [5, 6, 12] (fun s5 s6 s12 wr => ∃ (i c : Nat) (vo : Value) (R : List ByteArray), s5 = vo ∧ s6 = .int .i64 (c : Int) ∧ s12 = .int .i64 (i : Int) ∧ Hid (i ≤ k) ∧ Hid (wr.ownsRow w.heap.size 9 1 vo R.length (R.map Value.string)) ∧ Hid (Below w.heap.size w wr) ∧ Hid (R ++ repL l c (H.drop i) = R0) ∧ Hid (Chain l.length c (H.drop i)) ∧ Hid (c ≤ n)) (fun _ _ s12 _ => k - (intOf s12).toNat)
  case atStart => exact ⟨0, 0, _, [], rfl, rfl, rfl, Lib.hid (Nat.zero_le _), HO0, Lib.hid ((Below.refl _ _).alloc (Nat.le_refl _) _), Lib.hid HR.out.symm, HCh, Lib.hid (Nat.zero_le _)⟩
  case round =>
    clear HO0 HR
    obtain ⟨i, c, vo, R, rfl, rfl, rfl, HI, HO, HB, HE, HCi, HCn⟩ := hrel
    by_cases hlt : i < k
    · have hltz : (i : Int) < (k : Int) := by omega
      have hiH : i < H.length := by rw [← HN.out.2]; exact hlt
      obtain ⟨b, off, e, rfl, hbl, he, q0, q1, q2, q3⟩ := HH.out.at.2.2 i hiH
      have c0 := (HB.out.cell (p := ⟨b, off + i * 4, none⟩) hbl).trans q0
      have c1 := (HB.out.cell (p := ⟨b, off + i * 4 + 1, none⟩) hbl).trans q1
      have c2 := (HB.out.cell (p := ⟨b, off + i * 4 + 2, none⟩) hbl).trans q2
      have c3 := (HB.out.cell (p := ⟨b, off + i * 4 + 3, none⟩) hbl).trans q3
      have hE := HE.out
      have hC := HCi.out
      rw [List.drop_eq_getElem_cons hiH] at hE hC
      have HK := Lib.hid he
      clear q0 q1 q2 q3 HE HCi he
      obtain ⟨h, hh⟩ : ∃ h, h = H[i] := ⟨_, rfl⟩
      rw [← hh] at hE hC HK
      have HE2 := Lib.hid (show (R ++ (l.drop c).take (h.fr - c) ++ h.new) ++ repL l h.fin (H.drop (i + 1)) = R0 by rw [← hE]; show _ = R ++ ((l.drop c).take (h.fr - c) ++ h.new ++ repL l h.fin (H.drop (i + 1))); simp only [List.append_assoc])
      have HC2 := Lib.hid hC
      clear hE hC hh hiH
      obtain ⟨x0, x1, ⟨xA, xn, xc⟩, ⟨yA, yn, yc⟩⟩ := e
      have hx0 := HK.out.fr
      have hxn := HK.out.old.len
      have hyn := HK.out.new.len
      dsimp only [k0, k1, k2, k3] at hx0 hxn hyn c0 c1 c2 c3
      subst hx0
      have HF := Lib.hid (show h.fr + xn = h.fin from by rw [hxn]; rfl)
      have HX := Lib.hid HK.out.new
      dsimp only at HX
      have HCt := Lib.hid (HSl.out.keep HB.out |>.cut c h.fr HC2.out.1 (by have := HC2.out.2.1; have := HF.out; have := HN.out; omega))
      have hfr : h.fr ≤ n := by have := HC2.out.2.1; have := HF.out; have := HN.out; omega
      have hxn1 : xn ≤ 1000 := by have := HC2.out.2.1; have := HF.out; have := HN.out; omega
      have HC3 := Lib.hid (And.intro HC2.out.1 (And.intro HC2.out.2.1 HC2.out.2.2))
      have HRl := Lib.hid (show R.length + ((l.drop c).take (h.fr - c)).length + h.new.length ≤ 10000000 by
        have h1 := congrArg List.length HE2.out
        have h2 := HLn.out
        simp only [List.length_append] at h1
        omega)
      have hcf : (c : Int) ≤ (h.fr : Int) := by have := HC3.out.1; omega
      have hfa : (h.fr : Int) ≤ (ca : Int) := by omega
      clear hyn HC2 HK hxn
      generalize h.new = Ln at *
      generalize h.fr = fr at *
      generalize h.fin = fin at *
      generalize (l.drop c).take (fr - c) = Lc at *
      go_upto_region 6 with fail
      have hal := (Below.refl wr.heap.size wr).alloc (Nat.le_refl _) (.cells #[.int .i64 (fr : Int), .int .i64 x1, .slice xA xn xc, .slice yA yn yc] 68)
      have hbx := Blk.new wr 68 #[.int .i64 (fr : Int), .int .i64 x1, .slice xA xn xc, .slice yA yn yc] rfl
      have HO1 := Lib.hid (HO.out.alloc (.cells #[.int .i64 (fr : Int), .int .i64 x1, .slice xA xn xc, .slice yA yn yc] 68))
      have HB1 := Lib.hid (HB.out.trans (hal.mono HB.out.size))
      have HCt1 := Lib.hid (HCt.out.keep hal)
      have HG := Lib.hid (show ∀ j, u5.ownBlock = some j → j ≠ wr.heap.size from fun j hj => by have := HO.out.lt j hj; omega)
      have HGw := Lib.hid (show w.heap.size ≤ wr.heap.size from HB.out.size)
      clear hal HO HB HCt c0 c1 c2 c3
      generalize wr.alloc (.cells #[.int .i64 (fr : Int), .int .i64 x1, .slice xA xn xc, .slice yA yn yc] 68) = w1 at *
      generalize wr.heap.size = g at *
      have hS : w1.drew.cell? ⟨g, 0, none⟩ = some (.int .i64 (fr : Int)) ∧ w1.drew.cell? ⟨g, 2, none⟩ = some (.slice xA xn xc) ∧ w1.drew.cell? ⟨g, 3, none⟩ = some (.slice yA yn yc) := ⟨(hbx.cell.1 0).trans rfl, (hbx.cell.1 2).trans rfl, (hbx.cell.1 3).trans rfl⟩
      have hgl : g < w1.heap.size := (Array.getElem?_eq_some_iff.1 hbx).1
      refine wp_region_tail 10 (fun W => W.cell? ⟨g, 0, none⟩ = some (.int .i64 (fr : Int)) ∧ W.cell? ⟨g, 2, none⟩ = some (.slice xA xn xc) ∧ W.cell? ⟨g, 3, none⟩ = some (.slice yA yn yc)) (by kernel_rfl) (by decide) ?_
      refine wpAnyT_take 99 0 (v := ?_) (by kernel_rfl) rfl (by kernel_rfl) (fun _ _ _ h => h) (Or.inl ⟨by rfl, fun W hW => ?_⟩) (by with_reducible assumption) ?_
      rotate_left
      focus ((try dsimp only at hW); go_simp; try with_reducible rfl)
      refine wpAnyT_take 99 1 (v := ?_) (by kernel_rfl) rfl (by kernel_rfl) (fun _ _ _ h => h) (Or.inl ⟨by rfl, fun W hW => ?_⟩) (by with_reducible assumption) ?_
      rotate_left
      focus ((try dsimp only at hW); go_simp; try with_reducible rfl)
      refine wpAnyT_take 99 2 (v := ?_) (by kernel_rfl) rfl (by kernel_rfl) (fun _ _ _ h => h) (Or.inl ⟨by rfl, fun W hW => ?_⟩) (by with_reducible assumption) ?_
      rotate_left
      focus ((try dsimp only at hW); go_simp; try with_reducible rfl)
      refine wpAnyT_take 99 3 (v := ?_) (by kernel_rfl) rfl (by kernel_rfl) (fun _ _ _ h => h) (Or.inl ⟨by rfl, fun W hW => ?_⟩) (by with_reducible assumption) ?_
      rotate_left
      focus ((try dsimp only at hW); go_simp; try with_reducible rfl)
      refine wpAnyT_take 99 4 (v := ?_) (by kernel_rfl) rfl (by kernel_rfl) (fun _ _ _ h => h) (Or.inl ⟨by rfl, fun W hW => ?_⟩) (by with_reducible assumption) ?_
      rotate_left
      focus ((try dsimp only at hW); go_simp; try with_reducible rfl)
      refine wpAnyT_take 99 5 (v := ?_) (by kernel_rfl) rfl (by kernel_rfl) (fun _ _ _ h => h) (Or.inl ⟨by rfl, fun W hW => ?_⟩) (by with_reducible assumption) ?_
      rotate_left
      focus ((try dsimp only at hW); go_simp; try with_reducible rfl)
      refine wpAnyT_take 99 7 (v := ?_) (by kernel_rfl) rfl (by kernel_rfl) (fun _ _ _ h => h) (Or.inl ⟨by rfl, fun W hW => ?_⟩) (by with_reducible assumption) ?_
      rotate_left
      focus ((try dsimp only at hW); go_simp; try with_reducible rfl)
      refine wpAnyT_take 99 8 (v := ?_) (by kernel_rfl) rfl (by kernel_rfl) (fun _ _ _ h => h) (Or.inl ⟨by rfl, fun W hW => ?_⟩) (by with_reducible assumption) ?_
      rotate_left
      focus ((try dsimp only at hW); go_simp; try with_reducible rfl)
      refine wpAnyT_one 6 (by kernel_rfl) (by decide) ?_
      refine wpOp_at rfl rfl (fun K hK => ?_)
      simp only [Act.put, List.getElem_toArray, List.getElem_cons_zero, List.getElem_cons_succ, List.setIfInBounds_toArray, List.set_cons_zero, List.set_cons_succ]
      refine wp_sl _ _ (by rfl) w.heap.size u5 R.length R (by rfl) (own_keep HO1.out (Below.refl _ _).drew) _ Lc (by rfl) (HCt1.out.keep (Below.refl _ _).drew) (by have := HRl.out; omega) HB1.out.size ?_
      intro v2 w2 hown2 hg2
      have hbx2 : Blk w2 g 68 #[.int .i64 (fr : Int), .int .i64 x1, .slice xA xn xc, .slice yA yn yc] := (hg2.block g hgl (fun e => HG.out g e.symm rfl)).trans hbx
      clear hbx
      have hcell : ∀ j, w2.cell? ⟨g, j, none⟩ = w1.drew.cell? ⟨g, j, none⟩ := fun j => World.cell?_of_block (hg2.block g hgl (fun e => HG.out g e.symm rfl))
      have hS2 := And.intro ((hcell 0).trans hS.1) (And.intro ((hcell 2).trans hS.2.1) ((hcell 3).trans hS.2.2))
      have hb2 : Below w.heap.size w w2 := HB1.out.drew.grown hg2 HB1.out.size (fun j hj => (HO1.out.lt j hj).1)
      clear hcell hS
      refine hK.out _ _ ⟨hS2, ?_⟩
      clear hK K
      simp only [Act.put, List.setIfInBounds_toArray, List.set_cons_zero, List.set_cons_succ]
      refine wpAnyT_one 9 (by kernel_rfl) (by decide) ?_
      refine wpOp_at rfl rfl (fun K hK => ?_)
      have hgw2 := hg2.size
      have HN3 := Lib.hid (show ∀ j, v2.ownBlock = some j → j ≠ g from own_blk hown2 hbx2 (by decide))
      refine wp_sl _ _ (by rfl) w.heap.size v2 (R.length + Lc.length) (R ++ Lc) (by rfl) hown2 _ Ln (by rfl) (HX.out.keep hb2) (by have := HRl.out; omega) hb2.size ?_
      intro v3 w3 hown3 hg3
      have hgl2 : g < w2.heap.size := Nat.lt_of_lt_of_le hgl hgw2
      have hcell : ∀ j, w3.cell? ⟨g, j, none⟩ = w2.cell? ⟨g, j, none⟩ := fun j => World.cell?_of_block (hg3.block g hgl2 (fun e => HN3.out (g) e.symm rfl))
      have hS3 := And.intro ((hcell 0).trans hS2.1) (And.intro ((hcell 2).trans hS2.2.1) ((hcell 3).trans hS2.2.2))
      have hb3 : Below w.heap.size w w3 := hb2.grown hg3 hb2.size (fun j hj => (hown2.lt j hj).1)
      clear hcell hS2
      refine hK.out _ _ ⟨hS3, ?_⟩
      clear hK K
      refine ⟨by kernel_rfl, ?_⟩
      simp only [List.drop_succ_cons, List.drop_zero]
      have HO3 := Lib.hid hown3
      have HB3 := Lib.hid hb3
      have k0 := hS3.1
      have k2 := hS3.2.1
      clear hown3 hb3 hg3 hown2 hg2 hS3 hb2 hgl2
      go_wp2_with fail
      exact ⟨⟨i + 1, fin, v3, R ++ Lc ++ Ln, rfl, by have := HF.out; first | (congr 1; omega) | rfl, by go_num, Lib.hid hlt, Lib.hid (by have := HO3.out; simp only [List.length_append] at *; exact this), HB3, HE2, Lib.hid HC3.out.2.2, Lib.hid (by have := HC3.out.2.1; have := HN.out; omega)⟩, by simp [intOf]; omega⟩
    · have hnz : ¬ (i : Int) < (k : Int) := by omega
      have hE := HE.out
      obtain rfl : i = k := by have := HI.out; omega
      rw [List.drop_of_length_le (by have := HN.out; omega)] at hE
      have HE2 := Lib.hid (show R ++ l.drop c = R0 from hE)
      have HCt := Lib.hid (HSl.out.keep HB.out |>.cut c n HCn.out (by have := HN.out; omega))
      rw [show (l.drop c).take (n - c) = l.drop c from List.take_of_length_le (by rw [List.length_drop]; have := HN.out; omega)] at HCt
      have HRl := Lib.hid (show R.length + (l.drop c).length ≤ 10000000 by
        have h1 := congrArg List.length HE2.out
        have h2 := HLn.out
        simp only [List.length_append] at h1
        omega)
      have hcn : (c : Int) ≤ (n : Int) := by have := HCn.out; omega
      generalize l.drop c = Lc at *
      clear hE HE HCi hlt
      go_wp2_with (at_builtin; refine app_sl rfl _ _ rfl w.heap.size u5 R.length R rfl HO.out _ Lc rfl HCt.out (by have := HRl.out; omega) HB.out.size ?_)
      all_goals
        intro v2 w2 hown2 hg2
        have HF := Lib.hid (show Owned w R0 (.returned v2) w2 from ⟨v2, rfl, by
          rw [← HE2.out, List.length_append, List.map_append]
          exact hown2, HB.out.grown hg2 HB.out.size (fun j hj => (HO.out.lt j hj).1)⟩)
        clear hown2 hg2
        go_wp2_with fail
        rw [← HQ.out]
        exact HF.out
end Go.Proofs.YtpnnojepbmpfiaaDoor
