/- Arithmetic expressions: the program's printer: expressions without parts. -/
import Derived.Test.YtiigclkebnmopaaGreatDoorArPrB
namespace Go.Proofs.YtiigclkebnmopaaGreatDoor
open Go.RowKit Go.Shelf

theorem NB.of {w : World} {k : Nat} {cs : Array Value} {T : TypeId} {fz : Nat × Nat} (h : w.heap[k]? = some (.cells cs T fz)) (hT : T ≠ 5) : NB w k := fun cs' fz' e => by
  rw [h] at e
  injection e with e
  injection e with _ e
  exact hT e
/-- what holds inside the printer's expr -/
structure SE (B b kx ky : Nat) (op : List UInt8) (n : Int) (nm : List UInt8) (A : Option Addr) (k c : Nat) (L : List UInt8) (bad : Bool) (w0 W : World) : Prop where
  one : One W kx 80 (.pointer (some ⟨b, 0, none⟩))
  four : Four W ky (.string (toB op)) (.int .i64 n) (.string (toB nm)) (.slice A k c)
  pr : Pr W B b L bad
  pf : PF B b w0 W
  ne : kx ≠ b ∧ ky ≠ b ∧ B ≤ W.heap.size ∧ B ≤ b
theorem SE.step {B b kx ky : Nat} {op nm : List UInt8} {n : Int} {A : Option Addr} {k c : Nat} {L L' : List UInt8} {bad bad' : Bool} {w0 W W' : World} (h : SE B b kx ky op n nm A k c L bad w0 W) (hp : Pr W' B b L' bad') (hf : PF B b W W') : SE B b kx ky op n nm A k c L' bad' w0 W' := by
  have h1 : W.heap[kx]? = some (.cells #[.pointer (some ⟨b, 0, none⟩)] 80 (0, 0)) := h.one
  have h2 : W.heap[ky]? = some (.cells #[.string (toB op), .int .i64 n, .string (toB nm), .slice A k c] 25 (0, 0)) := h.four
  exact ⟨(hf.block kx (Array.getElem?_eq_some_iff.1 h1).1 h.ne.1 (.inr (NB.of h1 (by decide)))).trans h1, (hf.block ky (Array.getElem?_eq_some_iff.1 h2).1 h.ne.2.1 (.inr (NB.of h2 (by decide)))).trans h2, hp, h.pf.trans hf, h.ne.1, h.ne.2.1, Nat.le_trans h.ne.2.2.1 hf.size, h.ne.2.2.2⟩
theorem SE.drew {B b kx ky : Nat} {op nm : List UInt8} {n : Int} {A : Option Addr} {k c : Nat} {L : List UInt8} {bad : Bool} {w0 W : World} (h : SE B b kx ky op n nm A k c L bad w0 W) : SE B b kx ky op n nm A k c L bad w0 W.drew :=
  h.step (h.pr.below (Below.refl _ W).drew) (.ofBelow (Below.refl _ W).drew)
theorem SE.below {B b kx ky : Nat} {op nm : List UInt8} {n : Int} {A : Option Addr} {k c : Nat} {L : List UInt8} {bad : Bool} {w0 W W' : World} (h : SE B b kx ky op n nm A k c L bad w0 W) (hb : Below W.heap.size W W') : SE B b kx ky op n nm A k c L bad w0 W' :=
  h.step (h.pr.below hb) (.ofBelow hb)
theorem SE.start {B b : Nat} {op nm : List UInt8} {n : Int} {A : Option Addr} {k c : Nat} {L : List UInt8} {bad : Bool} {w : World} (h : Pr w B b L bad) (hB : B ≤ w.heap.size) : SE B b w.heap.size (w.heap.size + 1) op n nm A k c L bad w ((w.alloc (.cells #[.pointer (some ⟨b, 0, none⟩)] 80)).alloc (.cells #[.string (toB op), .int .i64 n, .string (toB nm), .slice A k c] 25)) := by
  have b1 := (Below.refl w.heap.size w).alloc (Nat.le_refl _) (.cells #[.pointer (some ⟨b, 0, none⟩)] 80)
  have s1 : (w.alloc (.cells #[.pointer (some ⟨b, 0, none⟩)] 80)).heap.size = w.heap.size + 1 := by simp
  have b2 := (Below.refl _ (w.alloc (.cells #[.pointer (some ⟨b, 0, none⟩)] 80))).alloc (Nat.le_refl _) (.cells #[.string (toB op), .int .i64 n, .string (toB nm), .slice A k c] 25)
  have o1 := One.new w 80 (.pointer (some ⟨b, 0, none⟩))
  have f1 := Four.new (w.alloc (.cells #[.pointer (some ⟨b, 0, none⟩)] 80)) (.string (toB op)) (.int .i64 n) (.string (toB nm)) (.slice A k c)
  rw [s1] at f1
  have hl := h.lt
  have hBb : B ≤ b := by obtain ⟨_, _, _, _, _, h⟩ := h; exact h
  have b12 := b1.trans (b2.mono b1.size)
  exact ⟨(b2.block _ o1.lt).trans o1, f1, h.below b12, .ofBelow b12, by omega, by omega, Nat.le_trans hB b12.size, hBb⟩
/-- what the walk reads -/
theorem SE.look {B b kx ky : Nat} {op nm : List UInt8} {n : Int} {A : Option Addr} {k c : Nat} {L : List UInt8} {bad : Bool} {w0 W : World} (h : SE B b kx ky op n nm A k c L bad w0 W) :
    W.cell? ⟨kx, 0, none⟩ = some (.pointer (some ⟨b, 0, none⟩)) ∧ W.cell? ⟨ky, 0, none⟩ = some (.string (toB op)) ∧ W.cell? ⟨ky, 1, none⟩ = some (.int .i64 n) ∧ W.cell? ⟨ky, 2, none⟩ = some (.string (toB nm)) ∧ W.cell? ⟨ky, 3, none⟩ = some (.slice A k c) ∧ kx < W.heap.size ∧ ky < W.heap.size ∧ b < W.heap.size := by
  obtain ⟨c0, c1, c2, c3, _⟩ := h.four.cells
  exact ⟨h.one.cell, c0, c1, c2, c3, h.one.lt, h.four.lt, h.pr.lt⟩

/-- the printer writes an expression: its text, and whether it has none -/
def PE (w0 : World) (B b : Nat) (x : Ex) (t : List UInt8) (bd : Bool) : Prop := ∀ (v : Value) (w : World) (L : List UInt8) (bad : Bool), ExV (fun g => g < B) w v x → Pr w B b L bad → Below B w0 w → L.length + t.length ≤ 1000000 →
  Calls Tryz.prog 42 #[.pointer (some ⟨b, 0, none⟩), v] w fun e w' => e = .returned (.tuple #[]) ∧ Pr w' B b (L ++ t) (bad || bd) ∧ PF B b w w'
/-- what it takes of the world ahead -/
structure W0 (w0 : World) (B b : Nat) : Prop where
  size : w0.heap.size = B
  pw : PW w0
  le : B ≤ b
  px : PX w0
theorem W0.pw' {w0 W : World} {B b : Nat} (h : W0 w0 B b) (hb : Below B w0 W) : PW W := Joins.tab_stays gPow h.pw hb (Nat.le_of_eq h.size)

theorem W0.px' {w0 W : World} {B b : Nat} (h : W0 w0 B b) (hb : Below B w0 W) : PX W := h.px.below (by rw [h.size]; exact hb)
theorem itoa_b (n : Int) (h1 : -9223372036854775808 ≤ n) (h2 : n ≤ 9223372036854775807) (w : World) (h : PW w) :
    Calls Tryz.prog 82 #[.int .i64 n] w fun e w' => e = .returned (.string (toB (Lib.itoa n))) ∧ Below w.heap.size w w' :=
  (Tryz.strconv_Itoa n h1 h2 w h).mono fun _ _ ⟨he, k, os, hw⟩ => ⟨he, by subst hw; exact below_grown w k os⟩
set_option maxRecDepth 100000 in
set_option maxHeartbeats 3200000 in
theorem pe_n (w0 : World) (B b : Nat) (h0 : W0 w0 B b) (n : Int) (nm : List UInt8) (l : List Ex) (h1 : -9223372036854775808 ≤ n) (h2 : n ≤ 9223372036854775807) : PE w0 B b (.mk [110] n nm l) (Lib.itoa n) (!decide (0 ≤ n)) := by
  intro v w L bad hx hp hB hlen
  obtain ⟨op, hop⟩ : ∃ op, ([110] : List UInt8) = op := ⟨_, rfl⟩
  rw [hop] at hx
  obtain ⟨A, c, rfl, _, _⟩ := hx.parts
  have HOp := Lib.hid hop.symm
  have f0 : ((toB op).toList == [110]) = true := by rw [toB_toList, HOp.out]; rfl
  have hBs : B ≤ w.heap.size := by have := hB.size; rw [h0.size] at this; exact this
  have HS := Lib.hid (SE.start (op := op) (nm := nm) (n := n) (A := A) (k := l.length) (c := c) hp hBs)
  have HW := Lib.hid (fun W (hf : PF B b w W) => h0.pw' (hB.trans (below_PF hf h0.le hBs)))
  clear hop hx hp
  go_enter Tryz.func42, Tryz.ntmps42
  go_upto_region 1 with fail
  generalize (w.alloc (.cells #[.pointer (some ⟨b, 0, none⟩)] 80)).alloc (.cells #[.string (toB op), .int .i64 n, .string (toB nm), .slice A l.length c] 25) = w1 at *
  obtain ⟨c0, c1, c2, c3, c4, l1, l2, l3⟩ := HS.out.look
  go_wp2_with fail
  refine (need_any B b L bad (decide (0 ≤ n)) _ HS.out.pr).mono ?_
  rintro e w2 ⟨rfl, hp2, hf2⟩
  have HS2 := Lib.hid (HS.out.step hp2 hf2)
  clear hp2 hf2 HS c0 c1 c2 c3 c4 l1 l2 l3
  obtain ⟨c0, c1, c2, c3, c4, l1, l2, l3⟩ := HS2.out.look
  have HIt := Lib.hid (itoa_b n h1 h2 w2.drew (HW.out _ HS2.out.drew.pf))
  go_upto_region 5 with fail
  go_region_law (first
    | (have hzz := HS3.out; clear hzz; go_simp; go_at_call 85; refine (ws_any B b L (Lib.itoa n) _ _ HS3.out.pr (by omega) HS3.out.ne.2.2.1).mono ?_; rintro e w4 ⟨rfl, hp4, hf4⟩; have HS4 := Lib.hid (HS3.out.step hp4 hf4); clear hp4 hf4)
    | (go_simp; go_at_call 82; refine HIt.out.mono ?_; rintro e w3 ⟨rfl, hb3⟩; have HS3 := Lib.hid (HS2.out.drew.below hb3); obtain ⟨d0, d1, d2, d3, d4, m1, m2, m3⟩ := HS3.out.look; clear hb3))
  all_goals
    go_wp2_with fail
    exact bodyPost_ret (results_none rfl _ _ _) rfl ⟨rfl, HS4.out.pr, HS4.out.pf⟩

end Go.Proofs.YtiigclkebnmopaaGreatDoor
