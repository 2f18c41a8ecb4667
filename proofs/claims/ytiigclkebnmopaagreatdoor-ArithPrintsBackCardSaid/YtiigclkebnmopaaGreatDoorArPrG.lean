/- Arithmetic expressions: the program's printer: operands. -/
import Derived.Test.YtiigclkebnmopaaGreatDoorArPrF
namespace Go.Proofs.YtiigclkebnmopaaGreatDoor
open Go.RowKit Go.Shelf

/-- the printer writes an operand -/
def PO (w0 : World) (B b : Nat) (x : Ex) (t : List UInt8) (bd : Bool) : Prop := ∀ (v : Value) (w : World) (L : List UInt8) (bad : Bool), ExV (fun g => g < B) w v x → Pr w B b L bad → Below B w0 w → L.length + t.length ≤ 1000000 →
  Calls Tryz.prog 87 #[.pointer (some ⟨b, 0, none⟩), v] w fun e w' => e = .returned (.tuple #[]) ∧ Pr w' B b (L ++ t) (bad || bd) ∧ PF B b w w'
theorem Four.pf {B b k : Nat} {w w' : World} {v0 v1 v2 v3 : Value} (h : Four w k v0 v1 v2 v3) (hf : PF B b w w') (hk : k ≠ b) : Four w' k v0 v1 v2 v3 := by
  have h2 : w.heap[k]? = some (.cells #[v0, v1, v2, v3] 25 (0, 0)) := h
  exact (hf.block k (Array.getElem?_eq_some_iff.1 h2).1 hk (.inr (NB.of h2 (by decide)))).trans h2
theorem exv_pf {B b : Nat} {w w' : World} {v : Value} {x : Ex} (h : ExV (fun g => g < B) w v x) (hf : PF B b w w') (hB : B ≤ b) : ExV (fun g => g < B) w' v x :=
  ExV.keep hf.size (fun k hk hl => ⟨hf.block k hl (by omega) (.inl hk), hk⟩) x h
set_option maxRecDepth 100000 in
set_option maxHeartbeats 6400000 in
theorem po_leaf (w0 : World) (B b : Nat) (h0 : W0 w0 B b) (x : Ex) (hlf : leafO x.op = true) (t : List UInt8) (bd : Bool) (E : PE w0 B b x t bd) : PO w0 B b x t bd := by
  intro v w L bad hx hp hB hlen
  unfold leafO at hlf
  obtain ⟨n, A, k, c, nm, rfl, hq⟩ := hx.form
  clear hq
  have ba := (Below.refl w.heap.size w).alloc (Nat.le_refl _) (.cells #[.string (toB x.op), .int .i64 n, .string (toB nm), .slice A k c] 25)
  have hBs : B ≤ w.heap.size := by have := hB.size; rw [h0.size] at this; exact this
  have hb := hp.lt
  have F := Lib.hid (Four.new w (.string (toB x.op)) (.int .i64 n) (.string (toB nm)) (.slice A k c))
  have HP := Lib.hid (hp.below ba)
  have HF := Lib.hid (PF.ofBelow (B := B) (b := b) ba)
  have HXv := Lib.hid (fun W (hf : PF B b w W) => exv_pf hx hf h0.le)
  have HBW := Lib.hid (fun W (hf : PF B b w W) => hB.trans (below_PF hf h0.le hBs))
  have HE := Lib.hid E
  have hne : w.heap.size ≠ b := by omega
  clear hx hp E ba hb
  simp only [Bool.or_eq_true, beq_iff_eq] at hlf
  have HLf := Lib.hid hlf
  obtain ⟨op, hop⟩ : ∃ op, x.op = op := ⟨_, rfl⟩
  rw [hop] at F HP HF HXv HLf ⊢
  clear hlf hop
  rcases HLf.out with (h1 | h1) | h1
  · have HOp := Lib.hid h1
    have f0 : ((toB op).toList == [110]) = true := by rw [toB_toList, HOp.out]; rfl
    clear h1
    go_enter Tryz.func87, Tryz.ntmps87
    obtain ⟨c0, c1, c2, c3, _⟩ := F.out.cells
    go_wp2_with fail
    refine (HE.out _ _ L bad (HXv.out _ HF.out) HP.out (HBW.out _ HF.out) hlen).mono ?_
    rintro e w2 ⟨rfl, hp2, hf2⟩
    have HP2 := Lib.hid hp2
    have HF2 := Lib.hid (HF.out.trans hf2)
    clear hp2 hf2
    go_wp2_with fail
    exact bodyPost_ret (results_none rfl _ _ _) rfl ⟨rfl, HP2.out, HF2.out⟩
  · have HOp := Lib.hid h1
    have f0 : ((toB op).toList == [110]) = false := by rw [toB_toList, HOp.out]; rfl
    have f1 : ((toB op).toList == [118]) = true := by rw [toB_toList, HOp.out]; rfl
    clear h1
    go_enter Tryz.func87, Tryz.ntmps87
    obtain ⟨c0, c1, c2, c3, _⟩ := F.out.cells
    go_wp2_with fail
    refine (HE.out _ _ L bad (HXv.out _ HF.out) HP.out (HBW.out _ HF.out) hlen).mono ?_
    rintro e w2 ⟨rfl, hp2, hf2⟩
    have HP2 := Lib.hid hp2
    have HF2 := Lib.hid (HF.out.trans hf2)
    clear hp2 hf2
    go_wp2_with fail
    exact bodyPost_ret (results_none rfl _ _ _) rfl ⟨rfl, HP2.out, HF2.out⟩
  · have HOp := Lib.hid h1
    have f0 : ((toB op).toList == [110]) = false := by rw [toB_toList, HOp.out]; rfl
    have f1 : ((toB op).toList == [118]) = false := by rw [toB_toList, HOp.out]; rfl
    have f2 : ((toB op).toList == [101]) = true := by rw [toB_toList, HOp.out]; rfl
    clear h1
    go_enter Tryz.func87, Tryz.ntmps87
    obtain ⟨c0, c1, c2, c3, _⟩ := F.out.cells
    go_wp2_with fail
    refine (HE.out _ _ L bad (HXv.out _ HF.out) HP.out (HBW.out _ HF.out) hlen).mono ?_
    rintro e w2 ⟨rfl, hp2, hf2⟩
    have HP2 := Lib.hid hp2
    have HF2 := Lib.hid (HF.out.trans hf2)
    clear hp2 hf2
    go_wp2_with fail
    exact bodyPost_ret (results_none rfl _ _ _) rfl ⟨rfl, HP2.out, HF2.out⟩

set_option maxRecDepth 100000 in
set_option maxHeartbeats 6400000 in
theorem po_node (w0 : World) (B b : Nat) (h0 : W0 w0 B b) (x : Ex) (hlf : leafO x.op = false) (t : List UInt8) (bd : Bool) (E : PE w0 B b x t bd) : PO w0 B b x (40 :: (t ++ [41])) bd := by
  intro v w L bad hx hp hB hlen
  unfold leafO at hlf
  obtain ⟨n, A, k, c, nm, rfl, hq⟩ := hx.form
  clear hq
  have ba := (Below.refl w.heap.size w).alloc (Nat.le_refl _) (.cells #[.string (toB x.op), .int .i64 n, .string (toB nm), .slice A k c] 25)
  have hBs : B ≤ w.heap.size := by have := hB.size; rw [h0.size] at this; exact this
  have hb := hp.lt
  have F := Lib.hid (Four.new w (.string (toB x.op)) (.int .i64 n) (.string (toB nm)) (.slice A k c))
  have HP := Lib.hid (hp.below ba)
  have HF := Lib.hid (PF.ofBelow (B := B) (b := b) ba)
  have HXv := Lib.hid (fun W (hf : PF B b w W) => exv_pf hx hf h0.le)
  have HBW := Lib.hid (fun W (hf : PF B b w W) => hB.trans (below_PF hf h0.le hBs))
  have HE := Lib.hid E
  have hne : w.heap.size ≠ b := by omega
  clear hx hp E ba hb
  simp only [Bool.or_eq_false_iff] at hlf
  have f0 : ((toB x.op).toList == [110]) = false := by rw [toB_toList]; exact hlf.1.1
  have f1 : ((toB x.op).toList == [118]) = false := by rw [toB_toList]; exact hlf.1.2
  have f2 : ((toB x.op).toList == [101]) = false := by rw [toB_toList]; exact hlf.2
  obtain ⟨op, hop⟩ : ∃ op, x.op = op := ⟨_, rfl⟩
  rw [hop] at F HP HF HXv f0 f1 f2 ⊢
  clear hlf hop
  simp at hlen
  go_enter Tryz.func87, Tryz.ntmps87
  obtain ⟨c0, c1, c2, c3, _⟩ := F.out.cells
  go_wp2_with fail
  rw [show (⟨#[40]⟩ : ByteArray) = toB [40] from rfl]
  refine (ws_any B b L [40] bad _ HP.out (by simp; omega) (Nat.le_trans hBs HF.out.size)).mono ?_
  rintro e w2 ⟨rfl, hp2, hf2⟩
  have HP2 := Lib.hid hp2
  have F2 := Lib.hid (F.out.pf hf2 hne)
  have HF2 := Lib.hid (HF.out.trans hf2)
  clear hp2 hf2 F HF HP c0 c1 c2 c3
  obtain ⟨c0, c1, c2, c3, _⟩ := F2.out.cells
  go_wp2_with fail
  refine (HE.out _ _ (L ++ [40]) bad (HXv.out _ HF2.out) HP2.out (HBW.out _ HF2.out) (by simp; omega)).mono ?_
  rintro e w3 ⟨rfl, hp3, hf3⟩
  have HP3 := Lib.hid hp3
  have HF3 := Lib.hid (HF2.out.trans hf3)
  clear hp3 hf3 F2 HF2 HP2 c0 c1 c2 c3
  go_wp2_with fail
  rw [show (⟨#[41]⟩ : ByteArray) = toB [41] from rfl]
  refine (ws_any B b (L ++ [40] ++ t) [41] (bad || bd) _ HP3.out (by simp; omega) (Nat.le_trans hBs HF3.out.size)).mono ?_
  rintro e w4 ⟨rfl, hp4, hf4⟩
  have HP4 := Lib.hid hp4
  have HF4 := Lib.hid (HF3.out.trans hf4)
  clear hp4 hf4
  go_wp2_with fail
  go_end0
  exact ⟨rfl, by simpa using HP4.out, HF4.out⟩

end Go.Proofs.YtiigclkebnmopaaGreatDoor
