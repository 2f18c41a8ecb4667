/- UndoLeadsBack, the walk: the law answers true for all keys. -/
import Derived.Test.YtokmiommhfbkeaaDoorPressAny
import Derived.Test.YtokmiommhfbkeaaDoorUndoLaw
import Derived.Test.YtokmiommhfbkeaaDoorKeyOf
namespace Go.Proofs.YtokmiommhfbkeaaDoor
open Go.RowKit

/-- v is a slice of pairs of numbers -/
def KS (w : World) (v : Value) (n : Nat) : Prop :=
  ∃ A c, v = .slice A n c ∧ n ≤ c ∧ (0 < n → ∃ b off, A = some ⟨b, off, none⟩ ∧ b < w.heap.size ∧ ∀ j, j < n → ∃ x y : Int, w.cell? ⟨b, off + j * 2, none⟩ = some (.int .i64 x) ∧ w.cell? ⟨b, off + j * 2 + 1, none⟩ = some (.int .i64 y) ∧ -9223372036854775808 ≤ y ∧ y ≤ 9223372036854775807)

/-- a line that was made by at most n changes -/
structure Made (n : Nat) (l : EL) : Prop where
  good : GL l
  lead : Lead l
  len : l.before.length ≤ n
  place : l.place = 0
theorem made_empty : Made 0 emptyL := ⟨⟨Int.le_refl _, Int.le_refl _, ⟨by decide, fun c h => by simp [emptyL] at h⟩, ⟨by decide, fun c h => by simp [emptyL] at h⟩, ⟨by decide, fun c h => by simp [emptyL] at h⟩, fun s hs => by simp [emptyL] at hs⟩, ⟨fun _ => ⟨rfl, rfl⟩, fun b r h => by simp [emptyL] at h⟩, Nat.le_refl _, rfl⟩
theorem Made.pressed {n : Nat} {l : EL} (h : Made n l) (hn : n ≤ 100) : pressedE l [] (([] : List ByteArray).length : Int) = 0 := by
  unfold pressedE
  rw [if_neg (by rw [(goodB_iff l).2 h.good]; simp), if_neg (by have := h.len; simp [histB]; omega), if_neg (by rw [h.place]; decide)]
theorem Made.fit {n : Nat} {l : EL} (h : Made n l) (hn : n ≤ 100) : Fit l :=
  ⟨by have := h.good.text.1; unfold maxLen; omega, by have := h.good.killed.1; unfold maxLen; omega, by have := h.good.begun.1; unfold maxLen; omega, by have := h.len; omega, fun s hs => by have := (h.good.state s hs).1.1; unfold maxLen; omega⟩
theorem Made.step {n : Nat} {l : EL} (h : Made n l) (hn : n < 100) {kind byte : Int} (h19 : ¬ kind = 19) (h20 : ¬ kind = 20) (h21 : ¬ kind = 21) (hr : (pressL l [] kind byte).2 = 0) : Made (n + 1) (pressL l [] kind byte).1 := by
  have hp := h.pressed (by omega)
  unfold pressL at *
  rw [if_neg (by simpa using hp)] at *
  by_cases hk : keyE kind byte = 0
  · rw [if_neg (by simpa using hk)]
    unfold keyL
    rw [if_neg h19, if_neg h20, if_neg h21]
    have hc := change_lead h.good hk (by have := h.len; omega) h.lead
    exact ⟨change_good h.good hk, hc.1, by have := hc.2.1; have := h.len; dsimp only; omega, by rw [hc.2.2]; exact h.place⟩
  · rw [if_pos hk] at hr
    exact absurd hr hk
theorem Made.more {n : Nat} {l : EL} (h : Made n l) : Made (n + 1) l := ⟨h.good, h.lead, by have := h.len; omega, h.place⟩
theorem Made.undo {n : Nat} {l : EL} (h : Made n l) (hn : n ≤ 100) : pressL l [] 19 0 = (undoL { l with killing := false }, 0) ∧ Made n (undoL { l with killing := false }) ∧ (undoL { l with killing := false }).before.length = l.before.length - 1 := by
  have hu := undo_lead h.good h.lead
  refine ⟨?_, ⟨hu.1, hu.2.1, by rw [hu.2.2.1]; have := h.len; omega, by rw [hu.2.2.2]; exact h.place⟩, hu.2.2.1⟩
  unfold pressL
  rw [if_neg (by simpa using h.pressed hn), if_neg (by decide)]
  rfl

theorem line_keep {w w' : World} {b : Nat} {t : TypeId} {cs : Array Value} (h : w.heap[b]? = some (.cells cs t (0, 0))) (hb : Below w.heap.size w w') : w'.heap[b]? = some (.cells cs t (0, 0)) := (hb.block b (lt_of_block h)).trans h

def elC (l : EL) (bv : Value) : Array Value := #[.string l.text, .int .i64 l.at', .string l.killed, .bool l.killing, bv, .int .i64 l.place, .string l.begun]
theorem ES.setFar {w : World} {v : Value} {l : List (ByteArray × Int)} {B : Nat} (h : ES w v l) (hv : ∀ k, v.ownBlock = some k → B < k) (i : Nat) (u : Value) : ES (w.setCell ⟨B, i, none⟩ u) v l := by
  obtain ⟨A, c, rfl, hc, h⟩ := h
  refine ⟨A, c, rfl, hc, fun hp => ?_⟩
  obtain ⟨b, off, rfl, hlt, hcell⟩ := h hp
  have hb : B < b := hv b rfl
  refine ⟨b, off, rfl, by simpa [World.setCell] using hlt, fun j hj => ⟨?_, ?_⟩⟩
  · rw [World.cell?_setCell_other _ _ _ _ (by intro e; injection e; omega)]; exact (hcell j hj).1
  · rw [World.cell?_setCell_other _ _ _ _ (by intro e; injection e; omega)]; exact (hcell j hj).2
/-- the law's line, in its box -/
structure Line (w0 wr : World) (B n : Nat) (l : EL) (bv : Value) : Prop where
  made : Made n l
  box : Blk wr B 34 (elC l bv)
  es : ES wr bv l.before
  far : ∀ k, bv.ownBlock = some k → B < k
  below : Below w0.heap.size w0 wr
theorem Line.keep {w0 w w' : World} {B n : Nat} {l : EL} {bv : Value} (h : Line w0 w B n l bv) (hb : Below w.heap.size w w') : Line w0 w' B n l bv :=
  ⟨h.made, h.box.below hb h.box.lt, h.es.keep hb, h.far, h.below.trans (hb.mono h.below.size)⟩

theorem set7 (a0 a1 a2 a3 a4 a5 a6 b0 b1 b2 b3 b4 b5 b6 : Value) :
    (((((((#[a0, a1, a2, a3, a4, a5, a6] : Array Value).setIfInBounds 0 b0).setIfInBounds 1 b1).setIfInBounds 2 b2).setIfInBounds 3 b3).setIfInBounds 4 b4).setIfInBounds 5 b5).setIfInBounds 6 b6 = #[b0, b1, b2, b3, b4, b5, b6] := by simp
theorem blk_set7 {w : World} {B : Nat} {t : TypeId} {a0 a1 a2 a3 a4 a5 a6 : Value} (h : Blk w B t #[a0, a1, a2, a3, a4, a5, a6]) (b0 b1 b2 b3 b4 b5 b6 : Value) :
    Blk (((((((w.setCell ⟨B, 0, none⟩ b0).setCell ⟨B, 1, none⟩ b1).setCell ⟨B, 2, none⟩ b2).setCell ⟨B, 3, none⟩ b3).setCell ⟨B, 4, none⟩ b4).setCell ⟨B, 5, none⟩ b5).setCell ⟨B, 6, none⟩ b6) B t #[b0, b1, b2, b3, b4, b5, b6] := by
  have := ((((((h.set_ 0 b0).set_ 1 b1).set_ 2 b2).set_ 3 b3).set_ 4 b4).set_ 5 b5).set_ 6 b6
  rwa [set7] at this
theorem line_set {w0 w : World} {B n m : Nat} {l r : EL} {bv u : Value} (hm : Made m r) (h : Line w0 w B n l bv) (hB : w0.heap.size ≤ B) (he : ES w u r.before) (hf : ∀ k, u.ownBlock = some k → B < k) :
    Line w0 (((((((w.setCell ⟨B, 0, none⟩ (.string r.text)).setCell ⟨B, 1, none⟩ (.int .i64 r.at')).setCell ⟨B, 2, none⟩ (.string r.killed)).setCell ⟨B, 3, none⟩ (.bool r.killing)).setCell ⟨B, 4, none⟩ u).setCell ⟨B, 5, none⟩ (.int .i64 r.place)).setCell ⟨B, 6, none⟩ (.string r.begun)) B m r u :=
  ⟨hm, blk_set7 (show Blk w B 34 #[.string l.text, .int .i64 l.at', .string l.killed, .bool l.killing, bv, .int .i64 l.place, .string l.begun] from h.box) _ _ _ _ _ _ _,
    ((((((he.setFar hf 0 _).setFar hf 1 _).setFar hf 2 _).setFar hf 3 _).setFar hf 4 _).setFar hf 5 _).setFar hf 6 _, hf,
    ((((((h.below.setCell hB _).setCell hB _).setCell hB _).setCell hB _).setCell hB _).setCell hB _).setCell hB _⟩

set_option maxRecDepth 100000 in
set_option maxHeartbeats 3200000 in
theorem undo_walk (v : Value) (n : Nat) (w : World) (hv : KS w v n) (hn : n ≤ 9223372036854775807) :
    Calls Tryd.prog 7 #[v] w fun e w' => e = .returned (.bool true) ∧ Below w.heap.size w w' := by
  obtain ⟨A, c, rfl, hc, hcells⟩ := hv
  have HC := Lib.hid hcells
  clear hcells
  obtain ⟨q, hq⟩ : ∃ q : Nat, min (n : Int) 100 = (q : Int) := ⟨min n 100, by omega⟩
  have hq1 : q ≤ n := by omega
  have hq2 : q ≤ 100 := by omega
  have hq3 : q ≤ c := by omega
  go_enter Tryd.func7, Tryd.ntmps7
  go_wp2_with fail
  refine (landed_any w).mono ?_
  rintro e w1 ⟨rfl, hb1⟩
  go_wp2_with fail
  clear hq
  have HB := Lib.hid hb1.size
  go_loopw [18] (fun i wr => ∃ (k : Nat) (l : EL) (bv : Value), k ≤ q ∧ i = .int .i64 k ∧ Hid (Line w wr w1.heap.size k l bv)) (fun i _ => q - (intOf i).toNat)
  case atStart => exact ⟨0, emptyL, .slice none 0 0, Nat.zero_le _, rfl, made_empty, heap_alloc_new w1 _, ES.nil _, (fun k hk => by cases hk), hb1.alloc hb1.size _⟩
  case round =>
    obtain ⟨k, l, bv, hk, rfl, HL⟩ := hrel
    by_cases hlt : k < q
    · obtain ⟨b, off, rfl, hbw, hcell⟩ := HC.out (by omega)
      obtain ⟨x, y, hx, hy, hy1, hy2⟩ := hcell k (by omega)
      have hx1 := (HL.out.below.cell (p := ⟨b, off + k * 2, none⟩) hbw).trans hx
      have hy3 := (HL.out.below.cell (p := ⟨b, off + k * 2 + 1, none⟩) hbw).trans hy
      clear hx hy hcell
      go_wp2_with fail
      refine (keyOf_any x y _ hy1 hy2).mono ?_
      rintro e w2 ⟨kind, byte, rfl, hb2⟩
      have HL2 := Lib.hid (HL.out.keep (((Below.refl _ wr).alloc (Nat.le_refl _) _).trans (hb2.mono (by simp))))
      have hB2 : w1.heap.size < w2.heap.size := HL2.out.box.lt
      clear hb2 hx1 hy3
      by_cases hskip : kind = 19 ∨ kind = 20 ∨ kind = 21
      · have hor : ((kind == 20) = true) ∨ ((kind == 20) = false ∧ (kind == 21) = true) ∨ ((kind == 20) = false ∧ (kind == 21) = false ∧ (kind == 19) = true) := by
          rcases hskip with rfl | rfl | rfl
          · exact .inr (.inr ⟨rfl, rfl, rfl⟩)
          · exact .inl rfl
          · exact .inr (.inl ⟨rfl, rfl⟩)
        clear hskip
        rcases hor with e20 | ⟨e20, e21⟩ | ⟨e20, e21, e19⟩
        all_goals
          go_wp2
          go_roundw
          case rel =>
            have hl := HL2.out.keep ((Below.refl _ w2).alloc (Nat.le_refl _) (.cells #[.int .i64 kind, .int .i64 byte] 48))
            exact ⟨k + 1, l, bv, by omega, by go_num, ⟨hl.made.more, hl.box, hl.es, hl.far, hl.below⟩⟩
          case measure => simp [intOf]; omega
      · simp only [not_or] at hskip
        obtain ⟨h19, h20, h21⟩ := hskip
        have e19 : (kind == 19) = false := by rw [beq_eq_false_iff_ne]; exact h19
        have e20 : (kind == 20) = false := by rw [beq_eq_false_iff_ne]; exact h20
        have e21 : (kind == 21) = false := by rw [beq_eq_false_iff_ne]; exact h21
        have HST := Lib.hid (fun hr => HL.out.made.step (by omega) h19 h20 h21 (byte := byte) hr)
        have HL3 := Lib.hid (HL2.out.keep ((Below.refl _ w2).alloc (Nat.le_refl _) (.cells #[.int .i64 kind, .int .i64 byte] 48)))
        obtain ⟨cB, zB⟩ := HL2.out.box.cell
        unfold elC at cB
        clear h19 h20 h21
        go_wp2_with fail
        refine (press_any l bv (.slice none 0 0) [] kind byte _ HL3.out.es ⟨none, 0, rfl, Nat.le_refl _, fun hh => by simp at hh⟩ (HL3.out.made.fit (by omega)) (by simp) (by simp)).mono ?_
        rintro e w3 ⟨bv', rfl, hes3, hfr3, hb3⟩
        have hes3' := hes3
        obtain ⟨A', c', rfl, _, _⟩ := hes3'
        have HL4 := Lib.hid (HL3.out.keep hb3)
        have HE3 := Lib.hid hes3
        have HF3 := Lib.hid (fun k hk => Nat.lt_of_lt_of_le (show w1.heap.size < (w2.alloc (.cells #[.int .i64 kind, .int .i64 byte] 48)).heap.size by simp; omega) (hfr3 k hk))
        have hB3 : w1.heap.size < w3.heap.size := HL4.out.box.lt
        clear cB zB hes3 hfr3 hb3
        generalize pressL l [] kind byte = r at *
        obtain ⟨cB, zB⟩ := HL4.out.box.cell
        unfold elC at cB
        by_cases hr : r.2 = 0
        · have er : (r.2 == 0) = true := by rw [beq_iff_eq]; exact hr
          have HM := Lib.hid (HST.out hr)
          clear hr
          go_wp2
          go_roundw
          case rel =>
            exact ⟨k + 1, r.1, .slice A' r.1.before.length c', by omega, by go_num, (line_set HM.out HL4.out HB.out HE3.out HF3.out).keep ((Below.refl _ _).alloc (Nat.le_refl _) _)⟩
          case measure => simp [intOf]; omega
        · have er : (r.2 == 0) = false := by rw [beq_eq_false_iff_ne]; exact hr
          clear hr
          go_wp2
          go_roundw
          case rel =>
            have hl := HL4.out.keep ((Below.refl _ w3).alloc (Nat.le_refl _) (.cells (elC r.1 (.slice A' r.1.before.length c')) 34))
            exact ⟨k + 1, l, bv, by omega, by go_num, ⟨hl.made.more, hl.box, hl.es, hl.far, hl.below⟩⟩
          case measure => simp [intOf]; omega
    · obtain rfl : k = q := by omega
      obtain ⟨cB, zB⟩ := HL.out.box.cell
      unfold elC at cB
      obtain ⟨A1, c1, rfl, _, _⟩ := HL.out.es
      go_wp2_with fail
      clear cB zB
      have HL100 := Lib.hid (show Line w wr w1.heap.size 100 l (.slice A1 l.before.length c1) from ⟨⟨HL.out.made.good, HL.out.made.lead, by have := HL.out.made.len; omega, HL.out.made.place⟩, HL.out.box, HL.out.es, HL.out.far, HL.out.below⟩)
      have hNle : l.before.length ≤ 100 := HL100.out.made.len
      generalize hN : l.before.length = N at HL100 hNle ⊢
      have HN := Lib.hid hN
      clear hN
      go_loopw [53] (fun i W => ∃ (j : Nat) (m : EL) (u : Value), j ≤ N ∧ i = .int .i64 j ∧ Hid (m.before.length = N - j) ∧ Hid (Line w W w1.heap.size 100 m u)) (fun i _ => N - (intOf i).toNat)
      case atStart => exact ⟨0, l, _, Nat.zero_le _, rfl, HN.out, HL100.out⟩
      case round =>
        obtain ⟨j, m, u, hj, rfl, HMN, HLm⟩ := hrel
        obtain ⟨cB, zB⟩ := HLm.out.box.cell
        unfold elC at cB
        have HU := Lib.hid (HLm.out.made.undo (Nat.le_refl _))
        by_cases hlt : j < N
        · have hB2 := HLm.out.box.lt
          go_wp2_with fail
          refine (press_any m u (.slice none 0 0) [] 19 0 _ HLm.out.es ⟨none, 0, rfl, Nat.le_refl _, fun hh => by simp at hh⟩ (HLm.out.made.fit (Nat.le_refl _)) (by simp) (by simp)).mono ?_
          rintro e w5 ⟨u', rfl, hes5, hfr5, hb5⟩
          rw [HU.out.1] at hes5 ⊢
          have hes5' := hes5
          obtain ⟨A2, c2, rfl, _, _⟩ := hes5'
          have HL5 := Lib.hid (HLm.out.keep hb5)
          have HE5 := Lib.hid hes5
          have HF5 := Lib.hid (fun k hk => Nat.lt_of_lt_of_le hB2 (hfr5 k hk))
          have HM5 := Lib.hid HU.out.2
          clear cB zB hes5 hfr5 hb5
          dsimp only at *
          generalize undoL { m with killing := false } = r at *
          obtain ⟨cB, zB⟩ := HL5.out.box.cell
          unfold elC at cB
          go_wp2
          go_roundw
          case rel => exact ⟨j + 1, r, .slice A2 r.before.length c2, by omega, by go_num, (by show r.before.length = N - (j + 1); rw [HM5.out.2, HMN.out]; omega), line_set HM5.out.1 HL5.out HB.out HE5.out HF5.out⟩
          case measure => simp [intOf]; omega
        · have hz : m.before = [] := List.length_eq_zero_iff.1 (by rw [HMN.out]; omega)
          have hld := HLm.out.made.lead.1 hz
          have ht : m.text = ⟨#[]⟩ := hld.1
          have ha : m.at' = 0 := hld.2
          have HBW := Lib.hid HLm.out.below
          clear HU hz hld
          rw [ht, ha] at cB
          clear ht ha
          go_wp2
          go_ret
          exact ⟨rfl, HBW.out⟩

end Go.Proofs.YtokmiommhfbkeaaDoor
