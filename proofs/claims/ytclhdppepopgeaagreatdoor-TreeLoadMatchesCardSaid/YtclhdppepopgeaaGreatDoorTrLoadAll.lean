/- The tree's lists: Load. -/
import Derived.Test.YtclhdppepopgeaaGreatDoorTrLoad
import Derived.Test.YtclhdppepopgeaaGreatDoorTrLoadW
import Derived.Test.YtclhdppepopgeaaGreatDoorTrDump
import Derived.Test.YtclhdppepopgeaaGreatDoorTrEq
import Derived.Test.YtclhdppepopgeaaGreatDoorTrUse
namespace Go.Proofs.YtclhdppepopgeaaGreatDoor
open Go.RowKit

theorem slash_dec (s : ByteArray) : (s.toList == [47]) = decide (s = slash) := by rw [← beq_dec, ByteArray.toList_eq slash]; rfl
theorem NewT.keep {w w' : World} {B t mn x e vb vo vc : Nat} {d : ND} {ch : Int} (h : NewT w B t mn x e vb vo vc d ch) (hb : Below w.heap.size w w') : NewT w' B t mn x e vb vo vc d ch := by
  obtain ⟨cs, h1, h2⟩ := h.volr
  exact ⟨(hb.block t (Array.getElem?_eq_some_iff.1 h.tree).1).trans h.tree, h.nodes.keep hb, h.node.keep hb, h.ent.keep hb, ⟨cs, (hb.block vb (Array.getElem?_eq_some_iff.1 h1).1).trans h1, h2⟩, (hb.block vo (Array.getElem?_eq_some_iff.1 h.volb).1).trans h.volb, h.vcp, h.bt, h.bm, h.bx, h.be, h.bv, h.bo, h.em⟩
/-- the root is another node -/
theorem NewT.root {w w' : World} {B t mn x e vb vo vc : Nat} {d d' : ND} {ch : Int} (h : NewT w B t mn x e vb vo vc d ch) (hF : Fx (fun b => b = x) w w') (hn : NodeAt w' x 0 d' (.map (some e))) : NewT w' B t mn x e vb vo vc d' ch := by
  obtain ⟨cs, h1, h2⟩ := h.volr
  obtain ⟨_, _, hx⟩ := h.node
  have hne : ∀ {b : Nat} {cs : Array Value} {T : TypeId}, w.heap[b]? = some (.cells cs T (0, 0)) → T ≠ 70 → b ≠ x := fun hb hT e => by
    rw [e, hx] at hb
    injection hb with hb
    injection hb with _ hb
    exact hT hb.symm
  exact ⟨hF.at h.tree (hne h.tree (by decide)), hF.map h.nodes (fun e => map_ne h.nodes ⟨_, _, hx⟩ e.symm), hn, hF.map h.ent (fun e => map_ne h.ent ⟨_, _, hx⟩ e.symm), ⟨cs, hF.at h1 (hne h1 (by decide)), h2⟩, hF.at h.volb (hne h.volb (by decide)), h.vcp, h.bt, h.bm, h.bx, h.be, h.bv, h.bo, h.em⟩
theorem NewT.change {w : World} {B t mn x e vb vo vc : Nat} {d : ND} {ch : Int} (h : NewT w B t mn x e vb vo vc d ch) (z : Int) : NewT (w.setCell ⟨t, 2, none⟩ (.int .i64 z)) B t mn x e vb vo vc d z := by
  have hF : Fx (fun b => b = t) w (w.setCell ⟨t, 2, none⟩ (.int .i64 z)) := Fx.setCell (S := fun b => b = t) w rfl 2 _
  have ht := h.tree
  have hne : ∀ {b : Nat} {cs : Array Value} {T : TypeId}, w.heap[b]? = some (.cells cs T (0, 0)) → T ≠ 67 → b ≠ t := fun hb hT e => by
    rw [e, ht] at hb
    injection hb with hb
    injection hb with _ hb
    exact hT hb.symm
  obtain ⟨cs, h1, h2⟩ := h.volr
  obtain ⟨a1, a2, hx⟩ := h.node
  exact ⟨heap_setCell_same w t 2 _ _ _ ht, hF.map h.nodes (fun e => map_ne h.nodes ⟨_, _, ht⟩ e.symm), ⟨a1, a2, hF.at hx (hne hx (by decide))⟩, hF.map h.ent (fun e => map_ne h.ent ⟨_, _, ht⟩ e.symm), ⟨cs, hF.at h1 (hne h1 (by decide)), h2⟩, hF.at h.volb (hne h.volb (by decide)), h.vcp, h.bt, h.bm, h.bx, h.be, h.bv, h.bo, h.em⟩
/-- the first loader -/
theorem NewT.ld {w : World} {B t mn x e0 vb vo vc kn lx : Nat} {e : FE} {ch : Int} (h : NewT w B t mn x e0 vb vo vc ⟨2, e.mode, e.user, e.group, noneB, e.changed⟩ ch) (hk : MapAt w kn (sL [(slash, ptr x)])) (hkm : kn ≠ mn) (hke : e0 ≠ kn) (hbk : B ≤ kn)
    (hbox : w.heap[lx]? = some (.cells #[ptr t, .map (some kn)] 73 (0, 0))) (hbl : B ≤ lx) : LD w B (startT e) t mn kn lx (fun _ => x) (fun _ => e0) ch vb vo vc := by
  have h1 : ∀ i, i < (startT e).nds.length → i = 0 := fun i hi => by simp [startT] at hi; exact hi
  refine ⟨⟨h.nodes, fun i hi => ?_, fun i hi _ => ?_, hk, h.bm, hbk, fun _ _ => h.bx, fun _ _ _ => h.be, hkm, fun _ _ _ => ⟨h.em, hke⟩, fun i j hi hj _ _ _ => by rw [h1 i hi, h1 j hj], fun i j hi hj _ => by rw [h1 i hi, h1 j hj]⟩, h.tree, h.volr, h.volb, hbox, h.vcp, h.bt, h.bv, h.bo, hbl⟩
  · obtain rfl := h1 i hi
    exact h.node
  · obtain rfl := h1 i hi
    exact h.ent
/-- what Load answers -/
def Loaded (w : World) (l : List FE) (r : Ending) (w' : World) : Prop :=
  ∃ p, r = .returned (.tuple #[p, .int .i64 (answerT l)]) ∧ Below w.heap.size w w' ∧
    (answerT l = 0 → ∃ (t : Nat) (s : TS) (mn : Nat) (nb eb : Nat → Nat) (ch : Int) (vb vo vc N : Nat), p = ptr t ∧ TM w' s t mn nb eb ch vb vo vc ∧ WF s N ∧ N ≤ 3000 ∧ allT s = l)
theorem Loaded.no {w w' : World} {l : List FE} {k : Int} (hb : Below w.heap.size w w') (hk : answerT l = k) (h0 : k ≠ 0) : Loaded w l (.returned (.tuple #[.pointer none, .int .i64 k])) w' :=
  ⟨_, by rw [hk], hb, fun h => absurd (hk ▸ h) h0⟩

set_option maxRecDepth 100000 in
set_option maxHeartbeats 2400000 in
theorem loadAll_any (l : List FE) (v : Value) (w : World) (hv : FL w v l) (hn : l.length ≤ 4611686018427387903) (hsz : ∀ e ∈ l, e.path.size < 4611686018427387904 ∧ e.text.size ≤ maxLen) :
    Calls Tryz.prog 6 #[v] w (Loaded w l) := by
  have HV := Lib.hid hv
  obtain ⟨A, c, rfl, hc, _⟩ := hv
  obtain ⟨Q, hQ⟩ : ∃ Q, Q = Loaded w l := ⟨_, rfl⟩
  rw [← hQ]
  have HQ := Lib.hid hQ
  clear hQ
  by_cases h1 : 2001 < l.length
  · have HF : Hid (∀ w', Below w.heap.size w w' → Q (.returned (.tuple #[.pointer none, .int .i64 2])) w') := Lib.hid (fun w' hb => by rw [HQ.out]; exact Loaded.no hb (answer_many h1) (by decide))
    have h1z : (2001 : Int) < (l.length : Int) := by omega
    clear h1
    go_enter Tryz.func6, Tryz.ntmps6
    go_wp2_with fail
    exact HF.out _ (Below.refl _ _)
  have h1z : ¬ (2001 : Int) < (l.length : Int) := by omega
  have HAL := Lib.hid (alone_any l _ w HV.out (by omega))
  by_cases h2 : 2000 < aloneT l
  · have HF : Hid (∀ w', Below w.heap.size w w' → Q (.returned (.tuple #[.pointer none, .int .i64 2])) w') := Lib.hid (fun w' hb => by rw [HQ.out]; exact Loaded.no hb (answer_alone h2) (by decide))
    have h2z : (2000 : Int) < (aloneT l : Int) := by omega
    clear h1 h2
    go_enter Tryz.func6, Tryz.ntmps6
    go_wp2_with fail
    refine HAL.out.mono ?_
    rintro r w1 ⟨rfl, hb1⟩
    have HB1 := Lib.hid hb1
    clear hb1
    go_wp2_with fail
    exact HF.out _ HB1.out
  have h2z : ¬ (2000 : Int) < (aloneT l : Int) := by omega
  cases l with
  | nil =>
    have HF : Hid (∀ w', Below w.heap.size w w' → Q (.returned (.tuple #[.pointer none, .int .i64 5])) w') := Lib.hid (fun w' hb => by rw [HQ.out]; exact Loaded.no hb rfl (by decide))
    clear h1 h2
    go_enter Tryz.func6, Tryz.ntmps6
    go_wp2_with fail
    refine HAL.out.mono ?_
    rintro r w1 ⟨rfl, hb1⟩
    have HB1 := Lib.hid hb1
    clear hb1
    go_wp2_with fail
    exact HF.out _ HB1.out
  | cons e r =>
    have HAN := Lib.hid (answer_of h1 h2)
    obtain ⟨hsp, hst⟩ := hsz e List.mem_cons_self
    obtain ⟨len, hlen⟩ : ∃ n, n = (e :: r).length := ⟨_, rfl⟩
    have hl1 : 1 ≤ len := by rw [hlen]; simp
    have hlp : 0 < len := hl1
    have HLEN : Hid (len = r.length + 1) := Lib.hid (by rw [hlen]; simp)
    rw [← hlen] at h1 h1z hc hn
    obtain ⟨al, hal⟩ : ∃ n, n = aloneT (e :: r) := ⟨_, rfl⟩
    rw [← hal] at h2 h2z HAL
    obtain ⟨b, off, rfl, hbw, hcell⟩ : ∃ b off, A = some ⟨b, off, none⟩ ∧ b < w.heap.size ∧ ∀ j (h : j < (e :: r).length), FeIn w b (off + j * 8) (e :: r)[j] := by
      obtain ⟨A', c', e1, _, h2⟩ := HV.out
      injection e1 with e1
      subst e1
      exact h2 (by simp)
    have hc0 := hcell 0 (by simp)
    rw [Nat.zero_mul, Nat.add_zero] at hc0
    replace hc0 : FeIn w b off e := hc0
    have HC0 := Lib.hid hc0
    have HCE := Lib.hid hcell
    rw [← hlen] at HAL ⊢
    clear hlen hal hcell hc0
    go_enter Tryz.func6, Tryz.ntmps6
    go_wp2_with fail
    refine HAL.out.mono ?_
    rintro r1 w1 ⟨rfl, hb1⟩
    have HB1 := Lib.hid hb1
    obtain ⟨c0, c1, c2, c3, c4, c5, c6, c7⟩ := HC0.out.keep hb1
    clear hb1
    have hl0 : ((len : Int) == 0) = false := beq_eq_false_iff_ne.2 (by omega)
    have HF5 : Hid ((e.path ≠ slash ∨ e.kind ≠ 2 ∨ rightB e = false) → ∀ w', Below w.heap.size w w' → Q (.returned (.tuple #[.pointer none, .int .i64 5])) w') := Lib.hid (fun hh w' hb => by rw [HQ.out]; exact Loaded.no hb (by rw [HAN.out, if_pos hh]) (by decide))
    by_cases hp : e.path = slash
    · have hpb : (e.path.toList == [47]) = true := by rw [slash_dec, decide_eq_true hp]
      have HP := Lib.hid hp
      clear hp
      by_cases hk : e.kind = 2
      · have HKD := Lib.hid hk
        rw [hk] at c1
        have HRG : Hid (Calls Tryz.prog 20 #[.agg #[.string e.path, .int .i64 2, .int .i64 e.mode, .int .i64 e.user, .int .i64 e.group, .string e.text, .int .i64 e.changed, .string e.same]] w1 fun r w' => r = .returned (.bool (rightB e)) ∧ Below w1.heap.size w1 w') := Lib.hid (by
          have h := right_any e w1 hst
          unfold feV at h
          rw [hk] at h
          exact h)
        clear hk
        go_wp2_with fail
        refine HRG.out.mono ?_
        rintro r1 w2 ⟨rfl, hb2⟩
        have HB2 : Hid (Below w.heap.size w w2) := Lib.hid (HB1.out.trans (hb2.mono HB1.out.size))
        clear hb2 c0 c1 c2 c3 c4 c5 c6 c7
        cases hr : rightB e with
        | false =>
          have HF := Lib.hid (HF5.out (.inr (.inr hr)))
          clear hr
          go_wp2_with fail
          exact HF.out _ HB2.out
        | true =>
          have HR := Lib.hid hr
          clear hr
          have HNEW := Lib.hid (new_any w2 w.heap.size HB2.out.size)
          go_wp2_with fail
          refine HNEW.out.mono ?_
          rintro r1 w3 ⟨t, mn, x, e0, vb, vo, vc, rfl, hN3, hb3⟩
          have HB3 : Hid (Below w.heap.size w w3) := Lib.hid (HB2.out.trans hb3)
          have HN3 := Lib.hid hN3
          have ht3 := hN3.tree
          have t0 : w3.cell? ⟨t, 0, none⟩ = some (.map (some mn)) := by simp [World.cell?, ht3]
          have hlk : (Instr.lookup 64 (.map (some mn)) (.int .i64 1) false).run Tryz.prog w3 = .ok (ptr x) w3 := by
            rw [lookup_i mapN undI zeroP hN3.nodes]
            rfl
          clear hb3 hN3 ht3
          go_upto_region 7 with fail
          obtain ⟨k0, k1, k2, k3, k4, k5, k6, k7⟩ := HC0.out.keep HB3.out
          refine wp_region_tailB 29 99 (fun W => W.cell? ⟨b, off + 2, none⟩ = some (.int .i64 e.mode) ∧ W.cell? ⟨b, off + 3, none⟩ = some (.int .i64 e.user) ∧ W.cell? ⟨b, off + 4, none⟩ = some (.int .i64 e.group) ∧ W.cell? ⟨b, off + 6, none⟩ = some (.int .i64 e.changed)) (by kernel_rfl) (by decide) (by kernel_rfl) ?_
          intro hTB
          have hxB := HN3.out.bx
          obtain ⟨nm0, pr0, hx3⟩ := HN3.out.node
          have HX0 : Hid (w3.drew.heap[x]? = some (.cells #[.int .i64 ((0 + 1 : Nat) : Int), .int .i64 0, .int .i64 2, .int .i64 493, .int .i64 0, .int .i64 0, .int .i64 0, .int .i64 nm0, .int .i64 0, .int .i64 pr0, .string noneB, .map (some e0)] 70 (0, 0))) := Lib.hid hx3
          have HF0 : Hid (Fx (fun b => b = x) w3 w3.drew) := Lib.hid (Fx.drew _ _)
          have HSt : Hid (∀ (W : World) (v : Value) (i : Nat), (W.cell? ⟨b, off + 2, none⟩ = some (.int .i64 e.mode) ∧ W.cell? ⟨b, off + 3, none⟩ = some (.int .i64 e.user) ∧ W.cell? ⟨b, off + 4, none⟩ = some (.int .i64 e.group) ∧ W.cell? ⟨b, off + 6, none⟩ = some (.int .i64 e.changed)) → (W.setCell ⟨x, i, none⟩ v).cell? ⟨b, off + 2, none⟩ = some (.int .i64 e.mode) ∧ (W.setCell ⟨x, i, none⟩ v).cell? ⟨b, off + 3, none⟩ = some (.int .i64 e.user) ∧ (W.setCell ⟨x, i, none⟩ v).cell? ⟨b, off + 4, none⟩ = some (.int .i64 e.group) ∧ (W.setCell ⟨x, i, none⟩ v).cell? ⟨b, off + 6, none⟩ = some (.int .i64 e.changed)) := Lib.hid (fun W v i h => by
            have k := fun j => World.cell?_setCell_other W ⟨x, i, none⟩ ⟨b, j, none⟩ v (fun e => by injection e with e1; omega)
            rw [k, k, k, k]
            exact h)
          clear hx3
          have hS0 : w3.drew.cell? ⟨b, off + 2, none⟩ = some (.int .i64 e.mode) ∧ w3.drew.cell? ⟨b, off + 3, none⟩ = some (.int .i64 e.user) ∧ w3.drew.cell? ⟨b, off + 4, none⟩ = some (.int .i64 e.group) ∧ w3.drew.cell? ⟨b, off + 6, none⟩ = some (.int .i64 e.changed) := ⟨k2, k3, k4, k6⟩
          generalize w3.drew = W0 at *
          refine wpAnyT_take 99 0 (v := ?_) hTB rfl (by kernel_rfl) (fun _ _ _ h => h) (Or.inl ⟨by rfl, fun W hW => ?_⟩) (by with_reducible assumption) ?_
          rotate_left
          focus ((try dsimp only at hW); (try obtain ⟨hW0, hW1, hW2, hW3⟩ := hW); go_simp; (try rw [if_pos hlp]); try with_reducible rfl)
          refine wpAnyT_take 99 1 (v := ?_) hTB rfl (by kernel_rfl) (fun _ _ _ h => h) (Or.inl ⟨by rfl, fun W hW => ?_⟩) (by with_reducible assumption) ?_
          rotate_left
          focus ((try dsimp only at hW); (try obtain ⟨hW0, hW1, hW2, hW3⟩ := hW); go_simp; (try rw [if_pos hlp]); try with_reducible rfl)
          refine wpAnyT_take 99 2 (v := ?_) hTB rfl (by kernel_rfl) (fun _ _ _ h => h) (Or.inl ⟨by rfl, fun W hW => ?_⟩) (by with_reducible assumption) ?_
          rotate_left
          focus ((try dsimp only at hW); (try obtain ⟨hW0, hW1, hW2, hW3⟩ := hW); go_simp; (try rw [if_pos hlp]); try with_reducible rfl)
          refine wpAnyT_take 99 3 (v := ?_) hTB rfl (by kernel_rfl) (fun _ _ _ h => h) (Or.inl ⟨by rfl, fun W hW => ?_⟩) (by with_reducible assumption) ?_
          rotate_left
          focus ((try dsimp only at hW); (try obtain ⟨hW0, hW1, hW2, hW3⟩ := hW); go_simp; (try rw [if_pos hlp]); try with_reducible rfl)
          refine wpAnyT_take 99 4 (v := ?_) hTB rfl (by kernel_rfl) (fun _ _ _ h => h) (Or.inl ⟨by rfl, fun W hW => ?_⟩) (by with_reducible assumption) ?_
          rotate_left
          focus ((try dsimp only at hW); (try obtain ⟨hW0, hW1, hW2, hW3⟩ := hW); go_simp; (try rw [if_pos hlp]); try with_reducible rfl)
          refine wpAnyT_take 99 5 (v := ?_) hTB rfl (by kernel_rfl) (fun _ _ _ h => h) (Or.inl ⟨by rfl, fun W hW => ?_⟩) (by with_reducible assumption) ?_
          rotate_left
          focus ((try dsimp only at hW); (try obtain ⟨hW0, hW1, hW2, hW3⟩ := hW); go_simp; (try rw [if_pos hlp]); try with_reducible rfl)
          refine wpAnyT_take 99 6 (v := ?_) hTB rfl (by kernel_rfl) (fun _ _ _ h => h) (Or.inl ⟨by rfl, fun W hW => ?_⟩) (by with_reducible assumption) ?_
          rotate_left
          focus ((try dsimp only at hW); (try obtain ⟨hW0, hW1, hW2, hW3⟩ := hW); go_simp; (try rw [if_pos hlp]); try with_reducible rfl)
          refine wpAnyT_take 99 7 (v := ?_) hTB rfl (by kernel_rfl) (fun _ _ _ h => h) (Or.inl ⟨by rfl, fun W hW => ?_⟩) (by with_reducible assumption) ?_
          rotate_left
          focus ((try dsimp only at hW); (try obtain ⟨hW0, hW1, hW2, hW3⟩ := hW); go_simp; (try rw [if_pos hlp]); try with_reducible rfl)
          refine wpAnyT_take 99 8 (v := ?_) hTB rfl (by kernel_rfl) (fun _ _ _ h => h) (Or.inl ⟨by rfl, fun W hW => ?_⟩) (by with_reducible assumption) ?_
          rotate_left
          focus ((try dsimp only at hW); (try obtain ⟨hW0, hW1, hW2, hW3⟩ := hW); go_simp; (try rw [if_pos hlp]); try with_reducible rfl)
          refine wpAnyT_take 99 9 (v := ?_) hTB rfl (by kernel_rfl) (fun _ _ _ h => h) (Or.inl ⟨by rfl, fun W hW => ?_⟩) (by with_reducible assumption) ?_
          rotate_left
          focus ((try dsimp only at hW); (try obtain ⟨hW0, hW1, hW2, hW3⟩ := hW); go_simp; (try rw [if_pos hlp]); try with_reducible rfl)
          refine wpAnyT_take 99 10 (v := ?_) hTB rfl (by kernel_rfl) (fun _ _ _ h => h) (Or.inl ⟨by rfl, fun W hW => ?_⟩) (by with_reducible assumption) ?_
          rotate_left
          focus ((try dsimp only at hW); (try obtain ⟨hW0, hW1, hW2, hW3⟩ := hW); go_simp; (try rw [if_pos hlp]); try with_reducible rfl)
          refine wpAnyT_take 99 11 (v := ?_) hTB rfl (by kernel_rfl) (fun _ _ _ h => h) (Or.inl ⟨by rfl, fun W hW => ?_⟩) (by with_reducible assumption) ?_
          rotate_left
          focus ((try dsimp only at hW); (try obtain ⟨hW0, hW1, hW2, hW3⟩ := hW); go_simp; (try rw [if_pos hlp]); try with_reducible rfl)
          refine wpAnyT_take 99 12 (v := ?_) hTB rfl (by kernel_rfl) (fun _ _ _ h => h) (Or.inl ⟨by rfl, fun W hW => ?_⟩) (by with_reducible assumption) ?_
          rotate_left
          focus ((try dsimp only at hW); (try obtain ⟨hW0, hW1, hW2, hW3⟩ := hW); go_simp; (try rw [if_pos hlp]); try with_reducible rfl)
          refine wpAnyT_take 99 13 (v := ?_) hTB rfl (by kernel_rfl) (fun _ _ _ h => h) (Or.inl ⟨by rfl, fun W hW => ?_⟩) (by with_reducible assumption) ?_
          rotate_left
          focus ((try dsimp only at hW); (try obtain ⟨hW0, hW1, hW2, hW3⟩ := hW); go_simp; (try rw [if_pos hlp]); try with_reducible rfl)
          refine wpAnyT_take 99 14 (v := ?_) hTB rfl (by kernel_rfl) (fun _ _ _ h => h) (Or.inl ⟨by rfl, fun W hW => ?_⟩) (by with_reducible assumption) ?_
          rotate_left
          focus ((try dsimp only at hW); (try obtain ⟨hW0, hW1, hW2, hW3⟩ := hW); go_simp; (try rw [if_pos hlp]); try with_reducible rfl)
          refine wpAnyT_take 99 15 (v := ?_) hTB rfl (by kernel_rfl) (fun _ _ _ h => h) (Or.inl ⟨by rfl, fun W hW => ?_⟩) (by with_reducible assumption) ?_
          rotate_left
          focus ((try dsimp only at hW); (try obtain ⟨hW0, hW1, hW2, hW3⟩ := hW); go_simp; (try rw [if_pos hlp]); try with_reducible rfl)
          refine wpAnyT_take 99 16 (v := ?_) hTB rfl (by kernel_rfl) (fun _ _ _ h => h) (Or.inl ⟨by rfl, fun W hW => ?_⟩) (by with_reducible assumption) ?_
          rotate_left
          focus ((try dsimp only at hW); (try obtain ⟨hW0, hW1, hW2, hW3⟩ := hW); go_simp; (try rw [if_pos hlp]); try with_reducible rfl)
          refine wpAnyT_take 99 17 (v := ?_) hTB rfl (by kernel_rfl) (fun _ _ _ h => h) (Or.inl ⟨by rfl, fun W hW => ?_⟩) (by with_reducible assumption) ?_
          rotate_left
          focus ((try dsimp only at hW); (try obtain ⟨hW0, hW1, hW2, hW3⟩ := hW); go_simp; (try rw [if_pos hlp]); try with_reducible rfl)
          refine wpAnyT_take 99 18 (v := ?_) hTB rfl (by kernel_rfl) (fun _ _ _ h => h) (Or.inl ⟨by rfl, fun W hW => ?_⟩) (by with_reducible assumption) ?_
          rotate_left
          focus ((try dsimp only at hW); (try obtain ⟨hW0, hW1, hW2, hW3⟩ := hW); go_simp; (try rw [if_pos hlp]); try with_reducible rfl)
          refine wpAnyT_take 99 19 (v := ?_) hTB rfl (by kernel_rfl) (fun _ _ _ h => h) (Or.inl ⟨by rfl, fun W hW => ?_⟩) (by with_reducible assumption) ?_
          rotate_left
          focus ((try dsimp only at hW); (try obtain ⟨hW0, hW1, hW2, hW3⟩ := hW); go_simp; (try rw [if_pos hlp]); try with_reducible rfl)
          refine wpAnyT_take 99 20 (v := ?_) hTB rfl (by kernel_rfl) (fun _ _ _ h => h) (Or.inl ⟨by rfl, fun W hW => ?_⟩) (by with_reducible assumption) ?_
          rotate_left
          focus ((try dsimp only at hW); (try obtain ⟨hW0, hW1, hW2, hW3⟩ := hW); go_simp; (try rw [if_pos hlp]); try with_reducible rfl)
          refine wpAnyT_take 99 21 (v := ?_) hTB rfl (by kernel_rfl) (fun _ _ _ h => h) (Or.inl ⟨by rfl, fun W hW => ?_⟩) (by with_reducible assumption) ?_
          rotate_left
          focus ((try dsimp only at hW); (try obtain ⟨hW0, hW1, hW2, hW3⟩ := hW); go_simp; (try rw [if_pos hlp]); try with_reducible rfl)
          simp only [Act.put, List.getElem_toArray, List.getElem_cons_zero, List.getElem_cons_succ, List.setIfInBounds_toArray, List.set_cons_zero, List.set_cons_succ]
          refine wpAnyT_one 22 (by kernel_rfl) (by decide) ?_
          refine wpOp_at rfl rfl (fun K hK => ?_)
          have a0 : W0.cell? ⟨x, 3, none⟩ = some (.int .i64 493) := by have := HX0.out; simp [World.cell?, this]
          have f0 : W0.frozen? ⟨x, 3, none⟩ = false := by have := HX0.out; simp [World.frozen?, this]
          go_simp
          refine hK.out _ _ ⟨HSt.out W0 (.int .i64 e.mode) 3 hS0, ?_⟩
          have hS1 := HSt.out W0 (.int .i64 e.mode) 3 hS0
          have HX1 := Lib.hid (heap_setCell_same W0 x 3 _ _ _ HX0.out : (W0.setCell ⟨x, 3, none⟩ (.int .i64 e.mode)).heap[x]? = _)
          have HF1 := Lib.hid (HF0.out.trans (Fx.setCell (S := fun b => b = x) W0 rfl 3 (.int .i64 e.mode)))
          clear hK K a0 f0 hS0 HX0 HF0
          generalize W0.setCell ⟨x, 3, none⟩ (.int .i64 e.mode) = W1 at *
          try simp only [Act.put, List.getElem_toArray, List.getElem_cons_zero, List.getElem_cons_succ, List.setIfInBounds_toArray, List.set_cons_zero, List.set_cons_succ]
          refine wpAnyT_take 99 23 (v := ?_) hTB rfl (by kernel_rfl) (fun _ _ _ h => h) (Or.inl ⟨by rfl, fun W hW => ?_⟩) (by with_reducible assumption) ?_
          rotate_left
          focus ((try dsimp only at hW); (try obtain ⟨hW0, hW1, hW2, hW3⟩ := hW); go_simp; try with_reducible rfl)
          refine wpAnyT_take 99 24 (v := ?_) hTB rfl (by kernel_rfl) (fun _ _ _ h => h) (Or.inl ⟨by rfl, fun W hW => ?_⟩) (by with_reducible assumption) ?_
          rotate_left
          focus ((try dsimp only at hW); (try obtain ⟨hW0, hW1, hW2, hW3⟩ := hW); go_simp; try with_reducible rfl)
          try simp only [Act.put, List.getElem_toArray, List.getElem_cons_zero, List.getElem_cons_succ, List.setIfInBounds_toArray, List.set_cons_zero, List.set_cons_succ]
          refine wpAnyT_one 25 (by kernel_rfl) (by decide) ?_
          refine wpOp_at rfl rfl (fun K hK => ?_)
          have a1 : W1.cell? ⟨x, 4, none⟩ = some (.int .i64 0) := by have := HX1.out; simp [World.cell?, this]
          have f1 : W1.frozen? ⟨x, 4, none⟩ = false := by have := HX1.out; simp [World.frozen?, this]
          go_simp
          refine hK.out _ _ ⟨HSt.out W1 (.int .i64 e.user) 4 hS1, ?_⟩
          have hS2 := HSt.out W1 (.int .i64 e.user) 4 hS1
          have HX2 := Lib.hid (heap_setCell_same W1 x 4 _ _ _ HX1.out : (W1.setCell ⟨x, 4, none⟩ (.int .i64 e.user)).heap[x]? = _)
          have HF2 := Lib.hid (HF1.out.trans (Fx.setCell (S := fun b => b = x) W1 rfl 4 (.int .i64 e.user)))
          clear hK K a1 f1 hS1 HX1 HF1
          generalize W1.setCell ⟨x, 4, none⟩ (.int .i64 e.user) = W2 at *
          try simp only [Act.put, List.getElem_toArray, List.getElem_cons_zero, List.getElem_cons_succ, List.setIfInBounds_toArray, List.set_cons_zero, List.set_cons_succ]
          refine wpAnyT_take 99 26 (v := ?_) hTB rfl (by kernel_rfl) (fun _ _ _ h => h) (Or.inl ⟨by rfl, fun W hW => ?_⟩) (by with_reducible assumption) ?_
          rotate_left
          focus ((try dsimp only at hW); (try obtain ⟨hW0, hW1, hW2, hW3⟩ := hW); go_simp; try with_reducible rfl)
          refine wpAnyT_take 99 27 (v := ?_) hTB rfl (by kernel_rfl) (fun _ _ _ h => h) (Or.inl ⟨by rfl, fun W hW => ?_⟩) (by with_reducible assumption) ?_
          rotate_left
          focus ((try dsimp only at hW); (try obtain ⟨hW0, hW1, hW2, hW3⟩ := hW); go_simp; try with_reducible rfl)
          try simp only [Act.put, List.getElem_toArray, List.getElem_cons_zero, List.getElem_cons_succ, List.setIfInBounds_toArray, List.set_cons_zero, List.set_cons_succ]
          refine wpAnyT_one 28 (by kernel_rfl) (by decide) ?_
          refine wpOp_at rfl rfl (fun K hK => ?_)
          have a2 : W2.cell? ⟨x, 5, none⟩ = some (.int .i64 0) := by have := HX2.out; simp [World.cell?, this]
          have f2 : W2.frozen? ⟨x, 5, none⟩ = false := by have := HX2.out; simp [World.frozen?, this]
          go_simp
          refine hK.out _ _ ⟨HSt.out W2 (.int .i64 e.group) 5 hS2, ?_⟩
          have hS3 := HSt.out W2 (.int .i64 e.group) 5 hS2
          have HX3 := Lib.hid (heap_setCell_same W2 x 5 _ _ _ HX2.out : (W2.setCell ⟨x, 5, none⟩ (.int .i64 e.group)).heap[x]? = _)
          have HF3 := Lib.hid (HF2.out.trans (Fx.setCell (S := fun b => b = x) W2 rfl 5 (.int .i64 e.group)))
          clear hK K a2 f2 hS2 HX2 HF2
          generalize W2.setCell ⟨x, 5, none⟩ (.int .i64 e.group) = W3 at *
          try simp only [Act.put, List.getElem_toArray, List.getElem_cons_zero, List.getElem_cons_succ, List.setIfInBounds_toArray, List.set_cons_zero, List.set_cons_succ]
          refine ⟨by kernel_rfl, ?_⟩
          simp only [List.drop_succ_cons, List.drop_zero]
          clear hTB
          have a3 : W3.cell? ⟨x, 6, none⟩ = some (.int .i64 0) := by have := HX3.out; simp [World.cell?, this]
          have f3 : W3.frozen? ⟨x, 6, none⟩ = false := by have := HX3.out; simp [World.frozen?, this]
          have hx4 := heap_setCell_same W3 x 6 _ _ (.int .i64 e.changed) HX3.out
          have hF4 : Fx (fun b => b = x) w3 (W3.setCell ⟨x, 6, none⟩ (.int .i64 e.changed)) := HF3.out.trans (Fx.setCell (S := fun b => b = x) W3 rfl 6 (.int .i64 e.changed))
          have hN4 : NewT (W3.setCell ⟨x, 6, none⟩ (.int .i64 e.changed)) w.heap.size t mn x e0 vb vo vc ⟨2, e.mode, e.user, e.group, noneB, e.changed⟩ 0 := HN3.out.root hF4 ⟨nm0, pr0, hx4⟩
          have HB4 : Hid (Below w.heap.size w (W3.setCell ⟨x, 6, none⟩ (.int .i64 e.changed))) := Lib.hid (HB3.out.trans (hF4.below (fun b hb => by subst hb; exact hxB) HB3.out.size))
          have HN4 := Lib.hid hN4
          clear hx4 hF4 hN4 HX3 HF3 HSt hS3 k0 k1 k2 k3 k4 k5 k6 k7 hlk t0
          go_upto_region 8 with fail
          clear a3 f3
          generalize W3.setCell ⟨x, 6, none⟩ (.int .i64 e.changed) = W4 at *
          have b6 := HN4.out.node.cells.2.2.2.2.2.2.1
          replace b6 : W4.cell? ⟨x, 6, none⟩ = some (.int .i64 e.changed) := b6
          have ht4 := HN4.out.tree
          have t2 : W4.cell? ⟨t, 2, none⟩ = some (.int .i64 0) := by simp [World.cell?, ht4]
          have t2f : W4.frozen? ⟨t, 2, none⟩ = false := by simp [World.frozen?, ht4]
          have HN5 := Lib.hid (HN4.out.change e.changed)
          have HB5 : Hid (Below w.heap.size w (W4.setCell ⟨t, 2, none⟩ (.int .i64 e.changed))) := Lib.hid (HB4.out.setCell HN4.out.bt _)
          clear ht4
          go_upto_region 9 with fail
          clear t2 t2f b6 HN4 HB4
          generalize W4.setCell ⟨t, 2, none⟩ (.int .i64 e.changed) = W5 at *
          obtain ⟨kn, hkn⟩ : ∃ k, k = W5.heap.size := ⟨_, rfl⟩
          obtain ⟨W6, hW6⟩ : ∃ z, z = W5.alloc (.map #[] 0) := ⟨_, rfl⟩
          have hm6 : MapAt W6 kn (sL []) := by rw [hW6, hkn]; exact MapAt.new W5
          have hb6 : Below W5.heap.size W5 W6 := by rw [hW6]; exact (Below.refl _ W5).alloc (Nat.le_refl _) _
          obtain ⟨W7, hmu, hW7⟩ := put_s (P := Tryz.prog) mapE undS hm6 slash (ptr x) rfl
          have hm7 : MapAt W7 kn (sL [(slash, ptr x)]) := by rw [hW7]; exact hm6.put
          have hb7 : Below W5.heap.size W5 W7 := by rw [hW7]; exact below_hset hb6 (by omega) _
          obtain ⟨lx, hlx⟩ : ∃ k, k = W7.heap.size := ⟨_, rfl⟩
          obtain ⟨W8, hW8⟩ : ∃ z, z = W7.alloc (.cells #[ptr t, .map (some kn)] 73) := ⟨_, rfl⟩
          have hb8 : Below W5.heap.size W5 W8 := by rw [hW8]; exact hb7.alloc hb7.size _
          have hx8 : W8.heap[lx]? = some (.cells #[ptr t, .map (some kn)] 73 (0, 0)) := by rw [hW8, hlx]; exact heap_alloc_new W7 _
          have hm8 : MapAt W8 kn (sL [(slash, ptr x)]) := hm7.keep (by rw [hW8]; exact (Below.refl _ W7).alloc (Nat.le_refl _) _)
          have hB5s := HB5.out.size
          have HLD : Hid (LD W8 w.heap.size (startT e) t mn kn lx (fun _ => x) (fun _ => e0) e.changed vb vo vc) := Lib.hid ((HN5.out.keep hb8).ld hm8 (by have := HN5.out.nodes.lt; omega) (by have := HN5.out.ent.lt; omega) (by omega) hx8 (by have := hb7.size; omega))
          have HB8 : Hid (Below w.heap.size w W8) := Lib.hid (HB5.out.trans (hb8.mono hB5s))
          have HW6 : Hid (W5.alloc (.map #[] 0) = W6) := Lib.hid hW6.symm
          have HKN : Hid (W5.heap.size = kn) := Lib.hid hkn.symm
          have HLX : Hid (W7.heap.size = lx) := Lib.hid hlx.symm
          have HW8 : Hid (W7.alloc (.cells #[ptr t, .map (some kn)] 73) = W8) := Lib.hid hW8.symm
          have hmu0 : (Instr.mapUpdate 68 (.map (some kn)) (.string ⟨#[47]⟩) (ptr x)).run Tryz.prog W6 = .ok () W7 := hmu
          rw [← HW6.out, ← HKN.out] at hmu0
          clear hmu hm6 hb6 hm7 hb7 hlx hb8 hx8 hm8 hB5s hW6 hkn hW7 hW8 HN5 HB5
          have hmm := @run_makeMap Tryz.prog
          go_upto_region 10 with fail
          rw [HKN.out, HLX.out, HW8.out]
          clear hmu0 hmm
          go_cut [91, 92, 93] from 90 to 93 (fun s91 s92 s93 wx => wx = W8 ∧ s93 = .int .i64 0 ∧ ∃ (A1 : Option Addr) (n1 c1 : Nat), s91 = .slice A1 n1 c1 ∧ s92 = .int .i64 (n1 : Int) ∧ n1 = r.length ∧ (0 < r.length → A1 = some ⟨b, off + 8, none⟩))
          case first =>
            by_cases hc1 : c = 1
            · subst hc1
              have hr0 : len = 1 := by omega
              have hr1 : r.length = 0 := by have := HLEN.out; omega
              have HR0 := Lib.hid hr0
              have HR1 := Lib.hid hr1
              clear hr0 hr1
              go_wp2_with fail
              go_meet
              exact ⟨rfl, rfl, _, 0, 0, rfl, rfl, HR1.out.symm, fun h => by rw [HR1.out] at h; exact absurd h (by decide)⟩
            · have hlz : (1 : Int) ≤ (len : Int) := by omega
              go_wp2_with fail
              go_meet
              exact ⟨rfl, rfl, _, _, _, rfl, rfl, by have := HLEN.out; omega, fun _ => rfl⟩
          case rest =>
            obtain ⟨rfl, rfl, A1, n1, c1, rfl, rfl, hn1, hA1⟩ := hcut
            subst hn1
            have HA1 := Lib.hid hA1
            clear hA1 hl1 hlp hl0 hpb
            have hrl : r.length ≤ 2000 := by have := HLEN.out; omega
            obtain ⟨s0, hs0⟩ : ∃ s0, s0 = startT e := ⟨_, rfl⟩
            have HWF0 : Hid (WF s0 0) := Lib.hid (by rw [hs0]; exact wf_start e)
            have HKI0 : Hid (KI s0) := Lib.hid (by rw [hs0]; exact ki_start e)
            have HANS : Hid (answerT (e :: r) = match loadT s0 r with
              | none => 5
              | some s => if allT s = e :: r ∧ usedT s ≤ 1048576 then 0 else 5) := Lib.hid (by rw [HAN.out, if_neg (by simp only [not_or]; exact ⟨fun h => h HP.out, fun h => h HKD.out, by rw [HR.out]; decide⟩), hs0]; rfl)
            have HBw : Hid (w.heap.size ≤ wc.heap.size) := Lib.hid HB8.out.size
            rw [← hs0] at HLD
            have HFL : Hid (∀ w', answerT (e :: r) = 5 → Below w.heap.size w w' → Q (.returned (.tuple #[.pointer none, .int .i64 5])) w') := Lib.hid (fun w' ha hb => by rw [HQ.out]; exact Loaded.no hb ha (by decide))
            have HRZ : Hid (∀ k (h : k < r.length), r[k].path.size < 4611686018427387904 ∧ r[k].text.size ≤ maxLen) := Lib.hid (fun k h => hsz _ (List.mem_cons_of_mem _ (List.getElem_mem h)))
            clear hs0 hsz HF5 HAN HAL HRG HNEW HLX HKN HW6 HW8
            go_wp2_with fail
            go_loopw [93] (fun s93 wr => ∃ (k : Nat) (s : TS) (nb eb : Nat → Nat) (ch : Int), k ≤ r.length ∧ s93 = .int .i64 (k : Int) ∧ Hid (loadT s0 (r.take k) = some s) ∧ Hid (LD wr w.heap.size s t mn kn lx nb eb ch vb vo vc) ∧ Hid (WF s k) ∧ Hid (KI s) ∧ Hid (Below w.heap.size w wr)) (fun s93 _ => r.length - (intOf s93).toNat)
            case atStart => exact ⟨0, s0, _, _, _, Nat.zero_le _, rfl, Lib.hid rfl, HLD, HWF0, HKI0, HB8⟩
            case round =>
              obtain ⟨k, s, nb, eb, ch, hk, rfl, HLT, HLk, HWk, HKk, HBk⟩ := hrel
              by_cases hkl : k < r.length
              · obtain rfl := HA1.out (by omega)
                obtain ⟨z, hz⟩ : ∃ z, z = r[k] := ⟨_, rfl⟩
                have hcell : FeIn wr b (off + 8 + k * 8) z := by
                  have h1 := HCE.out (k + 1) (by simp; omega)
                  rw [List.getElem_cons_succ, ← hz, show off + (k + 1) * 8 = off + 8 + k * 8 by omega] at h1
                  exact h1.keep HBk.out
                obtain ⟨c0, c1, c2, c3, c4, c5, c6, c7⟩ := hcell
                have HZ : Hid (r[k] = z) := Lib.hid hz.symm
                obtain ⟨hzp, hzt⟩ : z.path.size < 4611686018427387904 ∧ z.text.size ≤ maxLen := by rw [hz]; exact HRZ.out k hkl
                have HBkw := Lib.hid (Nat.le_trans HBk.out.size (Nat.le_refl _))
                clear hz
                go_upto_region 13 with fail
                obtain ⟨W1, hW1⟩ : ∃ z', z' = wr.alloc (.cells #[.string z.path, .int .i64 z.kind, .int .i64 z.mode, .int .i64 z.user, .int .i64 z.group, .string z.text, .int .i64 z.changed, .string z.same] 33) := ⟨_, rfl⟩
                obtain ⟨bx, hbx⟩ : ∃ x, x = wr.heap.size := ⟨_, rfl⟩
                have hx0 : W1.heap[bx]? = some (.cells #[.string z.path, .int .i64 z.kind, .int .i64 z.mode, .int .i64 z.user, .int .i64 z.group, .string z.text, .int .i64 z.changed, .string z.same] 33 (0, 0)) := by rw [hW1, hbx]; exact heap_alloc_new wr _
                obtain ⟨x0, x1, x2, x3, x4, x5, x6, x7⟩ := FeAt.cells (show FeAt W1 bx z from hx0)
                have hb1 : Below wr.heap.size wr W1 := by rw [hW1]; exact (Below.refl _ wr).alloc (Nat.le_refl _) _
                have HB1 : Hid (Below w.heap.size w W1) := Lib.hid (HBk.out.trans (hb1.mono HBk.out.size))
                have HLO := Lib.hid (load_any W1 w.heap.size s t mn kn lx nb eb ch vb vo vc (HLk.out.keep hb1) k HWk.out (by omega) HKk.out HB1.out.size z hzp hzt)
                rw [← hbx, ← hW1]
                clear hx0 hb1 hW1 hbx c0 c1 c2 c3 c4 c5 c6 c7
                go_wp2_with fail
                refine HLO.out.mono ?_
                rintro r2 w9 ⟨hb9, hcase⟩
                have HB9 : Hid (Below w.heap.size w w9) := Lib.hid (HB1.out.trans hb9)
                have HCS := Lib.hid hcase
                clear hcase hb9 x0 x1 x2 x3 x4 x5 x6 x7
                rcases HCS.out with ⟨hf, rfl⟩ | ⟨s', nb', eb', ch', hs', rfl, hL'⟩
                · have HF := Lib.hid (HFL.out w9 (by rw [HANS.out, loadT_fail HLT.out hkl (by rw [HZ.out]; exact hf)]) HB9.out)
                  clear hf
                  go_wp2_with fail
                  exact HF.out
                · have HL2 := Lib.hid hL'
                  have HT2 : Hid (loadT s0 (r.take (k + 1)) = some s') := Lib.hid (by rw [loadT_next HLT.out hkl, HZ.out]; exact hs')
                  have HW2 := Lib.hid (wf_step HWk.out hs')
                  have HK2 := Lib.hid (ki_step HWk.out HKk.out hs')
                  have hk1 : IntKind.i64.wrap ((k : Int) + 1) = ((k + 1 : Nat) : Int) := IntWalk.i64_in _ (by omega)
                  clear hs' hL'
                  go_wp2_with fail
                  exact ⟨⟨k + 1, s', nb', eb', ch', by omega, rfl, HT2, HL2, HW2, HK2, HB9⟩, by simp [intOf]; omega⟩
              · obtain rfl : k = r.length := by omega
                have HLS : Hid (loadT s0 r = some s) := Lib.hid (by have := HLT.out; rwa [List.take_length] at this)
                have hal2 : (allT s).length ≤ 4611686018427387903 := by
                  have h1 := dump_len HWk.out (s.nds.length + 1) slash 0 ([], []) HWk.out.pos
                  have h2 := rest_le HWk.out []
                  have h3 : s.nds.length * r.length ≤ 3001 * 3000 := Nat.mul_le_mul (by have := HWk.out.few; omega) (by omega)
                  unfold allT
                  have h4 : (dumpT s (s.nds.length + 1) slash 0 ([], [])).1.length + restN s (dumpT s (s.nds.length + 1) slash 0 ([], [])).2 ≤ 0 + restN s [] + 1 := h1
                  omega
                have HV2 : Hid (FL w (.slice (some ⟨b, off, none⟩) len c) (e :: r)) := Lib.hid (by
                  have h := HV.out
                  rwa [show (e :: r).length = len by rw [HLEN.out]; rfl] at h)
                have hlen2 : (e :: r).length ≤ 4611686018427387903 := by simp; omega
                have HDU := Lib.hid (dump_any s t mn nb eb ch vb vo vc wr HLk.out.tm r.length HWk.out (by omega))
                go_wp2_with fail
                refine HDU.out.mono ?_
                rintro r2 w2 ⟨v2, rfl, hfl2, hb2⟩
                have HB2 : Hid (Below w.heap.size w w2) := Lib.hid (HBk.out.trans (hb2.mono HBk.out.size))
                have HT2 := Lib.hid (HLk.out.tm.keep hb2)
                have HEQ := Lib.hid (equal_any (allT s) (e :: r) v2 _ w2 hfl2 (HV2.out.keep HB2.out) hal2 hlen2)
                clear hb2 hfl2 hal2 hlen2
                go_wp2_with fail
                refine HEQ.out.mono ?_
                rintro r2 w3 ⟨rfl, hb3⟩
                have HB3 : Hid (Below w.heap.size w w3) := Lib.hid (HB2.out.trans (hb3.mono HB2.out.size))
                have HT3 := Lib.hid (HT2.out.keep hb3)
                clear hb3
                by_cases hall : allT s = e :: r
                · rw [decide_eq_true hall]
                  have HAL2 := Lib.hid hall
                  have HFT := Lib.hid (fits_any s t mn nb eb ch vb vo vc w3 HT3.out r.length HWk.out (by omega))
                  clear hall
                  go_wp2_with fail
                  refine HFT.out.mono ?_
                  rintro r2 w4 ⟨rfl, hb4⟩
                  have HB4 : Hid (Below w.heap.size w w4) := Lib.hid (HB3.out.trans (hb4.mono HB3.out.size))
                  have HT4 := Lib.hid (HT3.out.keep hb4)
                  clear hb4
                  by_cases hu : usedT s ≤ 1048576
                  · rw [decide_eq_true hu]
                    have HF : Hid (Q (.returned (.tuple #[ptr t, .int .i64 0])) w4) := Lib.hid (by
                      have ha : answerT (e :: r) = 0 := by rw [HANS.out, HLS.out]; dsimp only; rw [if_pos ⟨HAL2.out, hu⟩]
                      rw [HQ.out]
                      exact ⟨_, by rw [ha], HB4.out, fun _ => ⟨t, s, mn, nb, eb, ch, vb, vo, vc, r.length, rfl, HT4.out, HWk.out, by omega, HAL2.out⟩⟩)
                    clear hu
                    go_wp2_with fail
                    exact HF.out
                  · rw [decide_eq_false hu]
                    have HF := Lib.hid (HFL.out w4 (by rw [HANS.out, HLS.out]; dsimp only; rw [if_neg (fun h => hu h.2)]) HB4.out)
                    clear hu
                    go_wp2_with fail
                    exact HF.out
                · rw [decide_eq_false hall]
                  have HF := Lib.hid (HFL.out w3 (by rw [HANS.out, HLS.out]; dsimp only; rw [if_neg (fun h => hall h.1)]) HB3.out)
                  clear hall
                  go_wp2_with fail
                  exact HF.out
      · have HF := Lib.hid (HF5.out (.inr (.inl hk)))
        have hkb : (e.kind == 2) = false := beq_eq_false_iff_ne.2 hk
        go_wp2_with fail
        exact HF.out _ HB1.out
    · have HF := Lib.hid (HF5.out (.inl hp))
      have hpb : (e.path.toList == [47]) = false := by rw [slash_dec, decide_eq_false hp]
      clear hp
      go_wp2_with fail
      exact HF.out _ HB1.out
end Go.Proofs.YtclhdppepopgeaaGreatDoor
