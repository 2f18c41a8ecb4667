/- QuoteIsConst: the builder of a word: a byte more. -/
import Derived.Test.YtonejkomggpbbabGreatDoorQtBld
import Derived.Test.YtonejkomggpbbabGreatDoorQtConst
namespace Go.Proofs.YtonejkomggpbbabGreatDoor
open Go.RowKit Go.Shelf

theorem BQ.last {B y n c : Nat} {A : Option Addr} {M : List KT} {k : Int} {t : List UInt8} {w : World} (h : BQ B y (.slice A n c) (M ++ [(k, t)]) w) :
    ∃ g, A = some ⟨g, 0, none⟩ ∧ n = M.length + 1 ∧ B ≤ g ∧ y ≠ g ∧ g < w.heap.size ∧ w.cell? ⟨g, M.length * 6, none⟩ = some (.int .i64 k) ∧ w.cell? ⟨g, M.length * 6 + 1, none⟩ = some (.string (toB t)) ∧ ∀ j, w.frozen? ⟨g, j, none⟩ = false := by
  have ho := h.own
  have hlen : (M ++ [(k, t)]).length = M.length + 1 := by simp
  rw [hlen] at ho
  have ho2 := ho
  rcases ho.2 with ⟨_, hn⟩ | ⟨g, cap, cur, hv, hb, hg, _⟩
  · omega
  · simp only [Value.slice.injEq] at hv
    obtain ⟨rfl, rfl, rfl⟩ := hv
    have hc : ∀ j, j < 6 → w.cell? ⟨g, M.length * 6 + j, none⟩ = (pcV (k, t))[j]? := fun j hj => by
      rw [ho2.cellAt (M.length * 6 + j) (by omega), rowQ_at _ M.length j (by simp) hj]
      simp
    have := h.lt
    exact ⟨g, rfl, rfl, hb, by omega, (Array.getElem?_eq_some_iff.1 hg).1, hc 0 (by decide), hc 1 (by decide), ho2.frozenAt⟩
theorem BQ.grow {B y g n c : Nat} {M : List KT} {k : Int} {t u : List UInt8} {w : World} (h : BQ B y (.slice (some ⟨g, 0, none⟩) n c) (M ++ [(k, t)]) w) (hg : B ≤ g) :
    BQ B y (.slice (some ⟨g, 0, none⟩) n c) (M ++ [(k, u)]) (w.setCell ⟨g, M.length * 6 + 1, none⟩ (.string (toB u))) := by
  have hlen : (M ++ [(k, t)]).length = M.length + 1 := by simp
  have hlen2 : (M ++ [(k, u)]).length = M.length + 1 := by simp
  have hlt := h.lt
  have ho := h.own
  rcases ho.2 with ⟨hv, _⟩ | ⟨_, _, _, hv, _⟩
  · simp at hv
  · simp only [Value.slice.injEq] at hv
    have hn := hv.2.1
    subst hn
    have h2 := (ho.stored (M.length * 6 + 1) (.string (toB u))).1
    rw [rowQ_set] at h2
    refine ⟨h.box.only ((Only.refl g w).setCell (i := M.length * 6 + 1) _) (by omega), ?_, hlt, Nat.le_trans h.le ((Only.refl g w).setCell (i := M.length * 6 + 1) _).size⟩
    rw [hlen2, ← hlen]
    exact h2
theorem one_string {w : World} {b : Nat} {c : UInt8} (h : w.heap[b]? = some (.cells #[.int .u8 (c.toNat : Int)] 5 (0, 0))) : (convert 99 9 (.slice (some ⟨b, 0, none⟩) 1 1)).run Tryz.prog w = .ok (.string (toB [c])) w :=
  row_string (B := 0) (n := 1) (l := [c]) ⟨rfl, .inr ⟨b, 1, #[.int .u8 (c.toNat : Int)], rfl, Nat.zero_le _, h, Nat.le_refl _, by decide, rfl, rfl⟩⟩
set_option maxRecDepth 100000 in
set_option maxHeartbeats 3200000 in
theorem byte_same (B y : Nat) (v : Value) (M : List KT) (t : List UInt8) (c : UInt8) (w : World) (h : BQ B y v (M ++ [(1, t)]) w) (hn : M.length ≤ 1000000) (ht : t.length ≤ 1000000) :
    Calls Tryz.prog 70 #[.pointer (some ⟨y, 0, none⟩), .int .i64 1, .int .u8 (c.toNat : Int)] w fun e w' => e = .returned (.tuple #[]) ∧ ∃ v', BQ B y v' (M ++ [(1, t ++ [c])]) w' ∧ Rest B y w w' := by
  have HQ := Lib.hid h
  obtain ⟨A, cp, rfl⟩ := own_form h.own
  obtain ⟨g, rfl, hnl, hge, hyg, hgl, q0, q1, qz⟩ := h.last
  rw [hnl] at HQ
  have HR := Lib.hid (Rest.refl B y w)
  have HLE := Lib.hid h.le
  have cy := h.box.cell
  have zy := h.box.fz
  rw [hnl] at cy
  have hyl := h.box.lt
  have hts := toB_size t
  have e1 : IntKind.i64.wrap (((M.length + 1 : Nat) : Int) - 1) = (M.length : Int) := by
    rw [show (((M.length + 1 : Nat) : Int) - 1) = (M.length : Int) by omega]
    exact IntWalk.i64_in _ (by omega)
  have h0 : (0 : Int) ≤ (M.length : Int) := by omega
  have hlx : (M.length : Int) < (M.length : Int) + 1 := by omega
  have hyg' : g ≠ y := fun e => hyg e.symm
  clear h hnl
  go_enter Tryz.func70, Tryz.ntmps70
  go_upto_region 2 with fail
  have hov : ¬ (9223372036854775807 : Nat) < t.length + 1 := by omega
  have hcv1 := one_string (c := c) (heap_alloc_new w (.cells #[.int .u8 (c.toNat : Int)] 5))
  have hcv2 : (convert 99 9 (.slice (some ⟨w.heap.size, 0, none⟩) 1 1)).run Tryz.prog (w.alloc (.cells #[.int .u8 (c.toNat : Int)] 5)).drew = .ok (.string (toB [c])) (w.alloc (.cells #[.int .u8 (c.toNat : Int)] 5)).drew := one_string (c := c) (heap_alloc_new w (.cells #[.int .u8 (c.toNat : Int)] 5))
  have hsz1 : (toB [c]).size = 1 := rfl
  go_region_law (fail)
  all_goals
    go_wp2_with fail
    refine bodyPost_ret (results_none rfl _ _ _) rfl ?_
    rw [toB_app]
    refine ⟨rfl, .slice (some ⟨g, 0, none⟩) (M.length + 1) cp, ?_⟩
    exact ⟨((BQ.grow (u := t ++ [c]) HQ.out hge).alloc _).drew, ((HR.out.set (i := M.length * 6 + 1) (.inr hge) (.string (toB (t ++ [c])))).alloc HLE.out _).drew⟩

set_option maxRecDepth 100000 in
set_option maxHeartbeats 6400000 in
theorem byte_new (B y : Nat) (v : Value) (L : List KT) (c : UInt8) (w : World) (h : BQ B y v L w) (hl : L = [] ∨ ∃ M k t, L = M ++ [(k, t)] ∧ k ≠ 1) (hn : L.length ≤ 1000000) :
    Calls Tryz.prog 70 #[.pointer (some ⟨y, 0, none⟩), .int .i64 1, .int .u8 (c.toNat : Int)] w fun e w' => e = .returned (.tuple #[]) ∧ ∃ v', BQ B y v' (L ++ [(1, [c])]) w' ∧ Rest B y w w' := by
  have HQ := Lib.hid h
  obtain ⟨A, cp, rfl⟩ := own_form h.own
  have HR := Lib.hid (Rest.refl B y w)
  have HV := Lib.hid (fun q (hq : (Value.slice A L.length cp).ownBlock = some q) => (h.own.lt q hq).2)
  have HB := h.le
  have cy := h.box.cell
  have zy := h.box.fz
  have hyl := h.box.lt
  have hlt := h.lt
  obtain ⟨i0, hi, hz0, hz1, hz2⟩ := info_parts pieceInfo
  have hlx : (L.length : Int) < (L.length : Int) + 1 := by omega
  have hnl : ∀ u ∈ zero6, u.oneCell' = true := by intro u hu; simp [zero6] at hu; rcases hu with rfl | rfl | rfl | rfl <;> rfl
  have hob1 := Lib.hid ((Below.heap_alloc (w.alloc (.cells #[.int .u8 (c.toNat : Int)] 5)) (.cells #[.int .i64 0, .string ⟨#[]⟩, .slice none 0 0, .pointer none, .pointer none, .pointer none] 68) w.heap.size (by simp)).trans (heap_alloc_new w (.cells #[.int .u8 (c.toNat : Int)] 5)))
  have hoz2 : Hid (((w.alloc (.cells #[.int .u8 (c.toNat : Int)] 5)).alloc (.cells #[.int .i64 0, .string ⟨#[]⟩, .slice none 0 0, .pointer none, .pointer none, .pointer none] 68)).heap[w.heap.size + 1]? = some (.cells #[.int .i64 0, .string ⟨#[]⟩, .slice none 0 0, .pointer none, .pointer none, .pointer none] 68)) := Lib.hid (by have h9 := heap_alloc_new (w.alloc (.cells #[.int .u8 (c.toNat : Int)] 5)) (.cells #[.int .i64 0, .string ⟨#[]⟩, .slice none 0 0, .pointer none, .pointer none, .pointer none] 68); rw [show (w.alloc (.cells #[.int .u8 (c.toNat : Int)] 5)).heap.size = w.heap.size + 1 by simp] at h9; exact h9)
  have hob4 : Hid (((w.alloc (.cells #[.int .i64 0, .string ⟨#[]⟩, .slice none 0 0, .pointer none, .pointer none, .pointer none] 68)).alloc (.cells #[.int .u8 (c.toNat : Int)] 5)).heap[w.heap.size + 1]? = some (.cells #[.int .u8 (c.toNat : Int)] 5)) := Lib.hid (by have h9 := heap_alloc_new (w.alloc (.cells #[.int .i64 0, .string ⟨#[]⟩, .slice none 0 0, .pointer none, .pointer none, .pointer none] 68)) (.cells #[.int .u8 (c.toNat : Int)] 5); rw [show (w.alloc (.cells #[.int .i64 0, .string ⟨#[]⟩, .slice none 0 0, .pointer none, .pointer none, .pointer none] 68)).heap.size = w.heap.size + 1 by simp] at h9; exact h9)
  have hob3 := Lib.hid ((Below.heap_alloc (w.alloc (.cells #[.int .i64 0, .string ⟨#[]⟩, .slice none 0 0, .pointer none, .pointer none, .pointer none] 68)) (.cells #[.int .u8 (c.toNat : Int)] 5) w.heap.size (by simp)).trans (heap_alloc_new w (.cells #[.int .i64 0, .string ⟨#[]⟩, .slice none 0 0, .pointer none, .pointer none, .pointer none] 68)))
  have hcv1 : (convert 99 9 (.slice (some ⟨w.heap.size, 0, none⟩) 1 1)).run Tryz.prog (w.alloc (.cells #[.int .u8 (c.toNat : Int)] 5)).drew = .ok (.string (toB [c])) (w.alloc (.cells #[.int .u8 (c.toNat : Int)] 5)).drew := one_string (c := c) (heap_alloc_new w (.cells #[.int .u8 (c.toNat : Int)] 5))
  have hcv2 : (convert 99 9 (.slice (some ⟨w.heap.size, 0, none⟩) 1 1)).run Tryz.prog ((w.alloc (.cells #[.int .u8 (c.toNat : Int)] 5)).alloc (.cells #[.int .i64 0, .string ⟨#[]⟩, .slice none 0 0, .pointer none, .pointer none, .pointer none] 68)).drew = .ok (.string (toB [c])) ((w.alloc (.cells #[.int .u8 (c.toNat : Int)] 5)).alloc (.cells #[.int .i64 0, .string ⟨#[]⟩, .slice none 0 0, .pointer none, .pointer none, .pointer none] 68)).drew := one_string (c := c) hob1.out
  have hcv3 : (convert 99 9 (.slice (some ⟨w.heap.size + 1, 0, none⟩) 1 1)).run Tryz.prog ((w.alloc (.cells #[.int .i64 0, .string ⟨#[]⟩, .slice none 0 0, .pointer none, .pointer none, .pointer none] 68)).alloc (.cells #[.int .u8 (c.toNat : Int)] 5)).drew = .ok (.string (toB [c])) ((w.alloc (.cells #[.int .i64 0, .string ⟨#[]⟩, .slice none 0 0, .pointer none, .pointer none, .pointer none] 68)).alloc (.cells #[.int .u8 (c.toNat : Int)] 5)).drew := one_string (c := c) (b := w.heap.size + 1) (by have h9 := heap_alloc_new (w.alloc (.cells #[.int .i64 0, .string ⟨#[]⟩, .slice none 0 0, .pointer none, .pointer none, .pointer none] 68)) (.cells #[.int .u8 (c.toNat : Int)] 5); rw [show (w.alloc (.cells #[.int .i64 0, .string ⟨#[]⟩, .slice none 0 0, .pointer none, .pointer none, .pointer none] 68)).heap.size = w.heap.size + 1 by simp] at h9; exact h9)
  have hgo : (IntKind.i64.wrap ((L.length : Int) - 1) = -1) ∨ ∃ M k t, L = M ++ [(k, t)] ∧ k ≠ 1 := by
    rcases hl with rfl | h
    · exact .inl (by decide)
    · exact .inr h
  clear hl
  rcases hgo with e1 | ⟨M, k, t, hL, hk⟩
  · clear h
    go_enter Tryz.func70, Tryz.ntmps70
    go_upto_region 3 with fail
    go_region_law (first
      | (refine step_append_lies ((w.alloc (.cells #[.int .i64 0, .string ⟨#[]⟩, .slice none 0 0, .pointer none, .pointer none, .pointer none] 68)).drew) rfl _ _ 26 (by rfl) B 68 i0 _ 6 72 Tryz.underlying26 hi hz0 hz1 hz2 rfl (by decide) (.slice A L.length cp) L.length (rowQ L) (by rfl) (HQ.out.alloc (.cells #[.int .i64 0, .string ⟨#[]⟩, .slice none 0 0, .pointer none, .pointer none, .pointer none] 68)).drew.own _ 1 1 zero6 (by rfl) rfl (World.news_of_block (heap_alloc_new w (.cells #[.int .i64 0, .string ⟨#[]⟩, .slice none 0 0, .pointer none, .pointer none, .pointer none] 68))) hnl (by decide) (by unfold maxLen; omega) (by omega) (HQ.out.alloc (.cells #[.int .i64 0, .string ⟨#[]⟩, .slice none 0 0, .pointer none, .pointer none, .pointer none] 68)).drew.le _ rfl ?_; intro g1 cap w6 hown hgrow hat hlt6; have H6 := Lib.hid (add_facts (wa := (w.alloc (.cells #[.int .i64 0, .string ⟨#[]⟩, .slice none 0 0, .pointer none, .pointer none, .pointer none] 68)).drew) (HQ.out.alloc (.cells #[.int .i64 0, .string ⟨#[]⟩, .slice none 0 0, .pointer none, .pointer none, .pointer none] 68)).drew ((HR.out.alloc HB (.cells #[.int .i64 0, .string ⟨#[]⟩, .slice none 0 0, .pointer none, .pointer none, .pointer none] 68)).drew) HB hgrow hat hown); obtain ⟨cy6, zy6, rz, q0, q1, q2, q3, q4, q5⟩ := H6.out.look; obtain ⟨ne1, ne2⟩ := H6.out.ne; have hcv6 := one_string (c := c) (heap_alloc_new w6 (.cells #[.int .u8 (c.toNat : Int)] 5)); clear hown hgrow hat)
      | (refine step_append_lies (((w.alloc (.cells #[.int .u8 (c.toNat : Int)] 5)).alloc (.cells #[.int .i64 0, .string ⟨#[]⟩, .slice none 0 0, .pointer none, .pointer none, .pointer none] 68)).drew) rfl _ _ 26 (by rfl) B 68 i0 _ 6 72 Tryz.underlying26 hi hz0 hz1 hz2 rfl (by decide) (.slice A L.length cp) L.length (rowQ L) (by rfl) ((HQ.out.alloc (.cells #[.int .u8 (c.toNat : Int)] 5)).alloc (.cells #[.int .i64 0, .string ⟨#[]⟩, .slice none 0 0, .pointer none, .pointer none, .pointer none] 68)).drew.own _ 1 1 zero6 (by rfl) rfl (World.news_of_block hoz2.out) hnl (by decide) (by unfold maxLen; omega) (by omega) ((HQ.out.alloc (.cells #[.int .u8 (c.toNat : Int)] 5)).alloc (.cells #[.int .i64 0, .string ⟨#[]⟩, .slice none 0 0, .pointer none, .pointer none, .pointer none] 68)).drew.le _ rfl ?_; intro g1 cap w6 hown hgrow hat hlt6; have H6 := Lib.hid (add_facts (wa := ((w.alloc (.cells #[.int .u8 (c.toNat : Int)] 5)).alloc (.cells #[.int .i64 0, .string ⟨#[]⟩, .slice none 0 0, .pointer none, .pointer none, .pointer none] 68)).drew) ((HQ.out.alloc (.cells #[.int .u8 (c.toNat : Int)] 5)).alloc (.cells #[.int .i64 0, .string ⟨#[]⟩, .slice none 0 0, .pointer none, .pointer none, .pointer none] 68)).drew (((HR.out.alloc HB (.cells #[.int .u8 (c.toNat : Int)] 5)).alloc HB (.cells #[.int .i64 0, .string ⟨#[]⟩, .slice none 0 0, .pointer none, .pointer none, .pointer none] 68)).drew) HB hgrow hat hown); obtain ⟨cy6, zy6, rz, q0, q1, q2, q3, q4, q5⟩ := H6.out.look; obtain ⟨ne1, ne2⟩ := H6.out.ne; have hcv6 := one_string (c := c) ((hgrow.block w.heap.size (Array.getElem?_eq_some_iff.1 (show ((w.alloc (.cells #[.int .u8 (c.toNat : Int)] 5)).alloc (.cells #[.int .i64 0, .string ⟨#[]⟩, .slice none 0 0, .pointer none, .pointer none, .pointer none] 68)).heap[w.heap.size]? = some (.cells #[.int .u8 (c.toNat : Int)] 5) from hob1.out)).1 (fun e => by have := HV.out w.heap.size e.symm; omega)).trans (show ((w.alloc (.cells #[.int .u8 (c.toNat : Int)] 5)).alloc (.cells #[.int .i64 0, .string ⟨#[]⟩, .slice none 0 0, .pointer none, .pointer none, .pointer none] 68)).heap[w.heap.size]? = some (.cells #[.int .u8 (c.toNat : Int)] 5) from hob1.out)); clear hown hgrow hat)
      | (refine step_append_lies (((w.alloc (.cells #[.int .i64 0, .string ⟨#[]⟩, .slice none 0 0, .pointer none, .pointer none, .pointer none] 68)).alloc (.cells #[.int .u8 (c.toNat : Int)] 5)).drew) rfl _ _ 26 (by rfl) B 68 i0 _ 6 72 Tryz.underlying26 hi hz0 hz1 hz2 rfl (by decide) (.slice A L.length cp) L.length (rowQ L) (by rfl) ((HQ.out.alloc (.cells #[.int .i64 0, .string ⟨#[]⟩, .slice none 0 0, .pointer none, .pointer none, .pointer none] 68)).alloc (.cells #[.int .u8 (c.toNat : Int)] 5)).drew.own _ 1 1 zero6 (by rfl) rfl (World.news_of_block (hob3.out)) hnl (by decide) (by unfold maxLen; omega) (by omega) ((HQ.out.alloc (.cells #[.int .i64 0, .string ⟨#[]⟩, .slice none 0 0, .pointer none, .pointer none, .pointer none] 68)).alloc (.cells #[.int .u8 (c.toNat : Int)] 5)).drew.le _ rfl ?_; intro g1 cap w6 hown hgrow hat hlt6; have H6 := Lib.hid (add_facts (wa := ((w.alloc (.cells #[.int .i64 0, .string ⟨#[]⟩, .slice none 0 0, .pointer none, .pointer none, .pointer none] 68)).alloc (.cells #[.int .u8 (c.toNat : Int)] 5)).drew) ((HQ.out.alloc (.cells #[.int .i64 0, .string ⟨#[]⟩, .slice none 0 0, .pointer none, .pointer none, .pointer none] 68)).alloc (.cells #[.int .u8 (c.toNat : Int)] 5)).drew (((HR.out.alloc HB (.cells #[.int .i64 0, .string ⟨#[]⟩, .slice none 0 0, .pointer none, .pointer none, .pointer none] 68)).alloc HB (.cells #[.int .u8 (c.toNat : Int)] 5)).drew) HB hgrow hat hown); obtain ⟨cy6, zy6, rz, q0, q1, q2, q3, q4, q5⟩ := H6.out.look; obtain ⟨ne1, ne2⟩ := H6.out.ne; have hcv6 := one_string (c := c) ((hgrow.block (w.heap.size + 1) (Array.getElem?_eq_some_iff.1 hob4.out).1 (fun e => by have := HV.out (w.heap.size + 1) e.symm; omega)).trans hob4.out); clear hown hgrow hat))
    all_goals
      go_wp2_with fail
      go_end0
      refine ⟨rfl, ?_⟩
      first
        | (have hz := H6.out.fin 1 [c]; with_reducible assumption)
        | (have hz := H6.out.fin2 1 [c]; with_reducible assumption)
  · subst hL
    obtain ⟨g, rfl, hnl2, hge, hyg, hgl, p0, p1, pz⟩ := h.last
    have hlen : (M ++ [(k, t)]).length = M.length + 1 := by simp
    have e1 : IntKind.i64.wrap (((M ++ [(k, t)]).length : Int) - 1) = (M.length : Int) := by
      rw [show (((M ++ [(k, t)]).length : Int) - 1) = (M.length : Int) by rw [hlen]; omega]
      exact IntWalk.i64_in _ (by rw [hlen] at hn; omega)
    have h0 : (0 : Int) ≤ (M.length : Int) := by omega
    have hly : (M.length : Int) < ((M ++ [(k, t)]).length : Int) := by rw [hlen]; omega
    have hk1 : (k == 1) = false := by rw [beq_eq_false_iff_ne]; exact hk
    clear h hnl2 hlen
    generalize M ++ [(k, t)] = L at *
    generalize M.length = m at *
    go_enter Tryz.func70, Tryz.ntmps70
    go_upto_region 3 with fail
    go_region_law (first
      | (refine step_append_lies ((w.alloc (.cells #[.int .i64 0, .string ⟨#[]⟩, .slice none 0 0, .pointer none, .pointer none, .pointer none] 68)).drew) rfl _ _ 26 (by rfl) B 68 i0 _ 6 72 Tryz.underlying26 hi hz0 hz1 hz2 rfl (by decide) (.slice (some ⟨g, 0, none⟩) L.length cp) L.length (rowQ L) (by rfl) (HQ.out.alloc (.cells #[.int .i64 0, .string ⟨#[]⟩, .slice none 0 0, .pointer none, .pointer none, .pointer none] 68)).drew.own _ 1 1 zero6 (by rfl) rfl (World.news_of_block (heap_alloc_new w (.cells #[.int .i64 0, .string ⟨#[]⟩, .slice none 0 0, .pointer none, .pointer none, .pointer none] 68))) hnl (by decide) (by unfold maxLen; omega) (by omega) (HQ.out.alloc (.cells #[.int .i64 0, .string ⟨#[]⟩, .slice none 0 0, .pointer none, .pointer none, .pointer none] 68)).drew.le _ rfl ?_; intro g1 cap w6 hown hgrow hat hlt6; have H6 := Lib.hid (add_facts (wa := (w.alloc (.cells #[.int .i64 0, .string ⟨#[]⟩, .slice none 0 0, .pointer none, .pointer none, .pointer none] 68)).drew) (HQ.out.alloc (.cells #[.int .i64 0, .string ⟨#[]⟩, .slice none 0 0, .pointer none, .pointer none, .pointer none] 68)).drew ((HR.out.alloc HB (.cells #[.int .i64 0, .string ⟨#[]⟩, .slice none 0 0, .pointer none, .pointer none, .pointer none] 68)).drew) HB hgrow hat hown); obtain ⟨cy6, zy6, rz, q0, q1, q2, q3, q4, q5⟩ := H6.out.look; obtain ⟨ne1, ne2⟩ := H6.out.ne; have hcv6 := one_string (c := c) (heap_alloc_new w6 (.cells #[.int .u8 (c.toNat : Int)] 5)); clear hown hgrow hat)
      | (refine step_append_lies (((w.alloc (.cells #[.int .u8 (c.toNat : Int)] 5)).alloc (.cells #[.int .i64 0, .string ⟨#[]⟩, .slice none 0 0, .pointer none, .pointer none, .pointer none] 68)).drew) rfl _ _ 26 (by rfl) B 68 i0 _ 6 72 Tryz.underlying26 hi hz0 hz1 hz2 rfl (by decide) (.slice (some ⟨g, 0, none⟩) L.length cp) L.length (rowQ L) (by rfl) ((HQ.out.alloc (.cells #[.int .u8 (c.toNat : Int)] 5)).alloc (.cells #[.int .i64 0, .string ⟨#[]⟩, .slice none 0 0, .pointer none, .pointer none, .pointer none] 68)).drew.own _ 1 1 zero6 (by rfl) rfl (World.news_of_block hoz2.out) hnl (by decide) (by unfold maxLen; omega) (by omega) ((HQ.out.alloc (.cells #[.int .u8 (c.toNat : Int)] 5)).alloc (.cells #[.int .i64 0, .string ⟨#[]⟩, .slice none 0 0, .pointer none, .pointer none, .pointer none] 68)).drew.le _ rfl ?_; intro g1 cap w6 hown hgrow hat hlt6; have H6 := Lib.hid (add_facts (wa := ((w.alloc (.cells #[.int .u8 (c.toNat : Int)] 5)).alloc (.cells #[.int .i64 0, .string ⟨#[]⟩, .slice none 0 0, .pointer none, .pointer none, .pointer none] 68)).drew) ((HQ.out.alloc (.cells #[.int .u8 (c.toNat : Int)] 5)).alloc (.cells #[.int .i64 0, .string ⟨#[]⟩, .slice none 0 0, .pointer none, .pointer none, .pointer none] 68)).drew (((HR.out.alloc HB (.cells #[.int .u8 (c.toNat : Int)] 5)).alloc HB (.cells #[.int .i64 0, .string ⟨#[]⟩, .slice none 0 0, .pointer none, .pointer none, .pointer none] 68)).drew) HB hgrow hat hown); obtain ⟨cy6, zy6, rz, q0, q1, q2, q3, q4, q5⟩ := H6.out.look; obtain ⟨ne1, ne2⟩ := H6.out.ne; have hcv6 := one_string (c := c) ((hgrow.block w.heap.size (Array.getElem?_eq_some_iff.1 (show ((w.alloc (.cells #[.int .u8 (c.toNat : Int)] 5)).alloc (.cells #[.int .i64 0, .string ⟨#[]⟩, .slice none 0 0, .pointer none, .pointer none, .pointer none] 68)).heap[w.heap.size]? = some (.cells #[.int .u8 (c.toNat : Int)] 5) from hob1.out)).1 (fun e => by have := HV.out w.heap.size e.symm; omega)).trans (show ((w.alloc (.cells #[.int .u8 (c.toNat : Int)] 5)).alloc (.cells #[.int .i64 0, .string ⟨#[]⟩, .slice none 0 0, .pointer none, .pointer none, .pointer none] 68)).heap[w.heap.size]? = some (.cells #[.int .u8 (c.toNat : Int)] 5) from hob1.out)); clear hown hgrow hat)
      | (refine step_append_lies (((w.alloc (.cells #[.int .i64 0, .string ⟨#[]⟩, .slice none 0 0, .pointer none, .pointer none, .pointer none] 68)).alloc (.cells #[.int .u8 (c.toNat : Int)] 5)).drew) rfl _ _ 26 (by rfl) B 68 i0 _ 6 72 Tryz.underlying26 hi hz0 hz1 hz2 rfl (by decide) (.slice (some ⟨g, 0, none⟩) L.length cp) L.length (rowQ L) (by rfl) ((HQ.out.alloc (.cells #[.int .i64 0, .string ⟨#[]⟩, .slice none 0 0, .pointer none, .pointer none, .pointer none] 68)).alloc (.cells #[.int .u8 (c.toNat : Int)] 5)).drew.own _ 1 1 zero6 (by rfl) rfl (World.news_of_block (hob3.out)) hnl (by decide) (by unfold maxLen; omega) (by omega) ((HQ.out.alloc (.cells #[.int .i64 0, .string ⟨#[]⟩, .slice none 0 0, .pointer none, .pointer none, .pointer none] 68)).alloc (.cells #[.int .u8 (c.toNat : Int)] 5)).drew.le _ rfl ?_; intro g1 cap w6 hown hgrow hat hlt6; have H6 := Lib.hid (add_facts (wa := ((w.alloc (.cells #[.int .i64 0, .string ⟨#[]⟩, .slice none 0 0, .pointer none, .pointer none, .pointer none] 68)).alloc (.cells #[.int .u8 (c.toNat : Int)] 5)).drew) ((HQ.out.alloc (.cells #[.int .i64 0, .string ⟨#[]⟩, .slice none 0 0, .pointer none, .pointer none, .pointer none] 68)).alloc (.cells #[.int .u8 (c.toNat : Int)] 5)).drew (((HR.out.alloc HB (.cells #[.int .i64 0, .string ⟨#[]⟩, .slice none 0 0, .pointer none, .pointer none, .pointer none] 68)).alloc HB (.cells #[.int .u8 (c.toNat : Int)] 5)).drew) HB hgrow hat hown); obtain ⟨cy6, zy6, rz, q0, q1, q2, q3, q4, q5⟩ := H6.out.look; obtain ⟨ne1, ne2⟩ := H6.out.ne; have hcv6 := one_string (c := c) ((hgrow.block (w.heap.size + 1) (Array.getElem?_eq_some_iff.1 hob4.out).1 (fun e => by have := HV.out (w.heap.size + 1) e.symm; omega)).trans hob4.out); clear hown hgrow hat))
    all_goals
      go_wp2_with fail
      go_end0
      refine ⟨rfl, ?_⟩
      first
        | (have hz := H6.out.fin 1 [c]; with_reducible assumption)
        | (have hz := H6.out.fin2 1 [c]; with_reducible assumption)
end Go.Proofs.YtonejkomggpbbabGreatDoor
