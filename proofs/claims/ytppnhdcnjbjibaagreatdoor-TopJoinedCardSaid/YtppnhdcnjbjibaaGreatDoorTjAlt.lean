/- TopJoined: lines whose block is known; three words put side by side. -/
import Derived.Test.YtppnhdcnjbjibaaGreatDoorTjCuts
namespace Go.Proofs.YtppnhdcnjbjibaaGreatDoor
open Go.RowKit

/-- v is a slice that reads as the texts l; they fill a block of texts -/
def SLs (w : World) (v : Value) (l : List ByteArray) : Prop :=
  ∃ A c, v = .slice A l.length c ∧ l.length ≤ c ∧ c ≤ l.length ∧ (0 < l.length → ∃ b, A = some ⟨b, 0, none⟩ ∧ w.heap[b]? = some (.cells (l.map Value.string).toArray 9 (0, 0)))
theorem SLs.sl {w : World} {v : Value} {l : List ByteArray} (h : SLs w v l) : SL w v l := by
  obtain ⟨A, c, rfl, hc, _, h⟩ := h
  refine ⟨A, c, rfl, hc, fun h0 => ?_⟩
  obtain ⟨b, rfl, hb⟩ := h h0
  refine ⟨b, 0, rfl, (Array.getElem?_eq_some_iff.1 hb).1, fun j hj => ?_⟩
  simp [World.cell?, hb, hj]
theorem SLs.keep {w w' : World} {v : Value} {l : List ByteArray} (h : SLs w v l) (hb : Below w.heap.size w w') : SLs w' v l := by
  obtain ⟨A, c, rfl, hc, hc2, h⟩ := h
  refine ⟨A, c, rfl, hc, hc2, fun h0 => ?_⟩
  obtain ⟨b, rfl, hg⟩ := h h0
  exact ⟨b, rfl, (hb.block b (Array.getElem?_eq_some_iff.1 hg).1).trans hg⟩
/-- a list in a block of its own was handed back -/
def GaveS (w : World) (l : List ByteArray) (e : Ending) (w' : World) : Prop := ∃ v, e = .returned v ∧ SLs w' v l ∧ Below w.heap.size w w'

theorem splits_any (s : ByteArray) (w : World) (hx : MX w) (hs : s.size < 4294967281) :
    Calls Tryz.prog 18 #[.string s, .string nl] w (GaveS w (Lib.splitB nl 0 (Lib.countB s nl) s)) := by
  obtain ⟨m, hm⟩ := hx
  refine (Tryz.strings_Split s nl m w hs hm (by decide)).mono fun e w' ⟨he, hw⟩ => ⟨_, he, ?_, by rw [hw]; exact (Below.refl _ w).alloc (Nat.le_refl _) _⟩
  have hl := Lib.splitB_all nl (by decide) 0 _ s rfl
  subst hw
  refine ⟨some ⟨w.heap.size, 0, none⟩, Lib.countB s nl + 1, by rw [hl], by rw [hl]; omega, by rw [hl]; omega, fun _ => ⟨w.heap.size, rfl, heap_alloc_new w _⟩⟩
set_option maxHeartbeats 800000 in
theorem linesS_any (s : ByteArray) (w : World) (hx : MX w) (hs : s.size < 4294967281) :
    Calls Tryz.prog 15 #[.string s] w (GaveS w (linesL s)) := by
  have hT := Lib.hid (fun W => Tryz.strings_TrimSuffix s nl W (by omega))
  have hS := Lib.hid (splits_any (trimB s) w hx (by have := trimB_size s; omega))
  cases h0 : s.toList.isEmpty
  · have hfin := Lib.hid (show linesL s = Lib.splitB nl 0 (Lib.countB (trimB s) nl) (trimB s) by unfold linesL; rw [h0]; rfl)
    go_enter Tryz.func15, Tryz.ntmps15
    go_wp2_with fail
    refine (hT.out _).mono ?_
    rintro e w1 ⟨he, hw⟩
    subst he; subst hw
    go_wp2_with fail
    refine hS.out.mono ?_
    rintro e w1 ⟨v, rfl, hv, hb⟩
    have HV := Lib.hid hv
    clear hv
    go_wp2
    go_ret
    exact ⟨v, rfl, by rw [hfin.out]; exact HV.out, hb⟩
  · have hfin := Lib.hid (show linesL s = [] by unfold linesL; rw [h0]; rfl)
    go_enter Tryz.func15, Tryz.ntmps15
    go_wp2
    go_ret
    exact ⟨_, rfl, by rw [hfin.out]; exact ⟨none, 0, rfl, Nat.le_refl _, Nat.le_refl _, fun h => by simp at h⟩, Below.refl _ _⟩

/-- what stands there after so many words -/
def altT (a b c : ByteArray) : Nat → List UInt8
  | 0 => []
  | 1 => bl a
  | 2 => bl a ++ 44 :: bl b
  | _ => bl a ++ 44 :: (bl b ++ 44 :: bl c)
set_option maxRecDepth 100000 in
set_option maxHeartbeats 3200000 in
/-- three words side by side -/
theorem alt_any (a b c : ByteArray) (ha : a.size ≤ 100) (hb : b.size ≤ 100) (hc : c.size ≤ 100) (v : Value) (w : World) (hv : SL w v [a, b, c]) :
    Calls Tryz.prog 22 #[v, .string ⟨#[44]⟩] w fun e w' => e = .returned (.string (ln (a, b, c))) ∧ Below w.heap.size w w' := by
  obtain ⟨A, cp, rfl, _, h⟩ := hv
  obtain ⟨g, off, rfl, hg, hcell⟩ := h (by simp)
  have c0 := hcell 0 (by simp)
  have c1 := hcell 1 (by simp)
  have c2 := hcell 2 (by simp)
  dsimp only [List.getElem_cons_zero, List.getElem_cons_succ] at c0 c1 c2
  have HC : Hid (∀ W, Below w.heap.size w W → W.cell? ⟨g, off + 0, none⟩ = some (.string a) ∧ W.cell? ⟨g, off + 1, none⟩ = some (.string b) ∧ W.cell? ⟨g, off + 2, none⟩ = some (.string c)) := Lib.hid (fun W hW => ⟨(hW.cell (p := ⟨g, off + 0, none⟩) hg).trans c0, (hW.cell (p := ⟨g, off + 1, none⟩) hg).trans c1, (hW.cell (p := ⟨g, off + 2, none⟩) hg).trans c2⟩)
  obtain ⟨x, hx⟩ : ∃ x, x = w.heap.size := ⟨_, rfl⟩
  obtain ⟨W0, hW0⟩ : ∃ W0, W0 = w.alloc (.cells #[.pointer none, .slice none 0 0] 100) := ⟨_, rfl⟩
  have HB0 : Hid (Below x w W0) := Lib.hid (by rw [hW0, hx]; exact (Below.refl _ w).alloc (Nat.le_refl _) _)
  have HU0 : Hid (BU W0 x x []) := Lib.hid (by rw [hW0, hx]; exact BU.new w)
  have HWE := Lib.hid hW0
  have HXE := Lib.hid hx
  have sa := bl_size a
  have sb := bl_size b
  have sc := bl_size c
  have HLN : Hid (ln (a, b, c) = toB (altT a b c 3)) := Lib.hid (by unfold ln; rw [lnL_eq]; rfl)
  clear h hW0 hx c0 c1 c2 hcell hg
  have e44 : ((44 : UInt8).toNat : Int) = 44 := rfl
  go_enter Tryz.func22, Tryz.ntmps22
  go_upto_region 2 with fail
  rw [← HXE.out, ← HWE.out]
  go_wp2_with fail
  go_loopw [10] (fun s10 wr => ∃ k : Nat, k ≤ 3 ∧ s10 = .int .i64 (k : Int) ∧ Hid (BU wr x x (altT a b c k)) ∧ Hid (Below x w wr)) (fun s10 _ => 3 - (intOf s10).toNat)
  case atStart => exact ⟨0, Nat.zero_le _, rfl, HU0, HB0⟩
  case round =>
    obtain ⟨k, hk, rfl, HU, HB⟩ := hrel
    have hbx : x ≤ wr.heap.size := by rw [HXE.out]; exact HB.out.size
    obtain ⟨c0, c1, c2⟩ := HC.out wr (by rw [← HXE.out]; exact HB.out)
    rw [Nat.add_zero] at c0
    rcases (by omega : k = 0 ∨ k = 1 ∨ k = 2 ∨ k = 3) with rfl | rfl | rfl | rfl
    · have HWS := Lib.hid (ws_any x x [] (bl a) wr HU.out (by simp; omega) hbx)
      rw [toB_bl] at HWS
      go_wp2_with fail
      refine HWS.out.mono ?_
      rintro e w1 ⟨rfl, hu1, hb1⟩
      have HU1 := Lib.hid hu1
      have HB1 := Lib.hid hb1
      clear hu1 hb1
      go_wp2_with fail
      exact ⟨⟨1, by omega, by simp, Lib.hid HU1.out, Lib.hid (HB.out.trans HB1.out)⟩, by simp [intOf]⟩
    · have HWB := Lib.hid (wb_any x x (bl a) 44 wr HU.out (by omega) hbx)
      have HWS := Lib.hid (fun W h1 h2 => ws_any x x (bl a ++ [44]) (bl b) W h1 (by rw [List.length_append]; simp; omega) h2)
      rw [toB_bl] at HWS
      rw [e44] at HWB
      go_wp2_with fail
      refine HWB.out.mono ?_
      rintro e w1 ⟨rfl, hu1, hb1⟩
      have HU1 := Lib.hid hu1
      have HB1 := Lib.hid hb1
      have c1' := (HC.out w1 (by rw [← HXE.out]; exact HB.out.trans hb1)).2.1
      clear hu1 hb1
      go_wp2_with fail
      refine (HWS.out _ HU1.out (Nat.le_trans hbx HB1.out.size)).mono ?_
      rintro e w2 ⟨rfl, hu2, hb2⟩
      have HU2 := Lib.hid hu2
      have HB2 := Lib.hid hb2
      clear hu2 hb2
      go_wp2_with fail
      exact ⟨⟨2, by omega, by simp, Lib.hid (by have := HU2.out; rw [List.append_assoc] at this; exact this), Lib.hid ((HB.out.trans HB1.out).trans HB2.out)⟩, by simp [intOf]⟩
    · have HWB := Lib.hid (wb_any x x (bl a ++ 44 :: bl b) 44 wr HU.out (by rw [List.length_append, List.length_cons]; omega) hbx)
      have HWS := Lib.hid (fun W h1 h2 => ws_any x x (bl a ++ 44 :: bl b ++ [44]) (bl c) W h1 (by rw [List.length_append, List.length_append, List.length_cons]; simp; omega) h2)
      rw [toB_bl] at HWS
      rw [e44] at HWB
      go_wp2_with fail
      refine HWB.out.mono ?_
      rintro e w1 ⟨rfl, hu1, hb1⟩
      have HU1 := Lib.hid hu1
      have HB1 := Lib.hid hb1
      clear hu1 hb1
      go_wp2_with fail
      refine (HWS.out _ HU1.out (Nat.le_trans hbx HB1.out.size)).mono ?_
      rintro e w2 ⟨rfl, hu2, hb2⟩
      have HU2 := Lib.hid hu2
      have HB2 := Lib.hid hb2
      clear hu2 hb2
      go_wp2_with fail
      exact ⟨⟨3, by omega, by simp, Lib.hid (by have := HU2.out; rw [List.append_assoc, List.append_assoc] at this; exact this), Lib.hid ((HB.out.trans HB1.out).trans HB2.out)⟩, by simp [intOf]⟩
    · have HST := Lib.hid (Tryz.Builder_String_any x x (altT a b c 3) wr HU.out hbx)
      obtain ⟨T, hT⟩ : ∃ T, T = altT a b c 3 := ⟨_, rfl⟩
      rw [← hT] at HST HLN
      clear hT
      go_wp2_with fail
      refine HST.out.mono ?_
      rintro e w1 ⟨rfl, hb1⟩
      go_wp2_with fail
      go_ret
      exact ⟨by rw [HLN.out]; rfl, by rw [← HXE.out]; exact HB.out.trans hb1⟩
end Go.Proofs.YtppnhdcnjbjibaaGreatDoor
