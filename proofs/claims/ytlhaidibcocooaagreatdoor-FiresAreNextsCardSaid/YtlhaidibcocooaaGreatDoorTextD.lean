/- Times: the law's text: five fields. (Begun; see NOTES.md.) -/
import Derived.Test.YtlhaidibcocooaaGreatDoorTextC
namespace Go.Proofs.YtlhaidibcocooaaGreatDoor
open Go.RowKit Go.Shelf

/-- numbers that came in -/
def RawN (w : World) (A : Option Addr) (n c : Nat) : Prop := n ≤ c ∧ n ≤ 9223372036854775807 ∧ (0 < n → ∃ g off, A = some ⟨g, off, none⟩ ∧ g < w.heap.size ∧ ∀ j, j < n → ∃ x : Int, w.cell? ⟨g, off + j, none⟩ = some (.int .i64 x))
theorem dice_start {w : World} {A : Option Addr} {n c : Nat} (h : RawN w A n c) : TB (w.alloc (.cells #[.slice A n c, .int .i64 0, .int .i64 100] 129)) w.heap.size 0 := by
  have b1 := (Below.refl w.heap.size w).alloc (Nat.le_refl _) (.cells #[.slice A n c, .int .i64 0, .int .i64 100] 129)
  refine ⟨A, n, c, 0, 100, ⟨heap_alloc_new w _, fun hn => ?_, h.1⟩, h.2.1, Int.le_refl _, by decide⟩
  obtain ⟨g, off, rfl, hg, hx⟩ := h.2.2 hn
  refine ⟨g, off, rfl, Nat.lt_of_lt_of_le hg b1.size, by omega, fun j hj => ?_⟩
  obtain ⟨x, hx⟩ := hx j hj
  exact ⟨x, (b1.cell (p := ⟨g, off + j, none⟩) hg).trans hx⟩
set_option maxHeartbeats 800000 in
theorem newDice_any (A : Option Addr) (n c : Nat) (w : World) (h : RawN w A n c) : Calls Tryz.prog 31 #[.slice A n c, .int .i64 100] w fun e w' => e = .returned (.pointer (some ⟨w.heap.size, 0, none⟩)) ∧ TB w' w.heap.size 0 ∧ Below w.heap.size w w' := by
  have HT := Lib.hid (dice_start h)
  have HB := Lib.hid ((Below.refl w.heap.size w).alloc (Nat.le_refl _) (.cells #[.slice A n c, .int .i64 0, .int .i64 100] 129))
  clear h
  go_enter Tryz.func31, Tryz.ntmps31
  go_wp2_with fail
  go_ret
  exact ⟨rfl, HT.out, HB.out⟩

theorem Only.below {b : Nat} {w a w' : World} (h : Only b a w') (ha : Below w.heap.size w a) (hB : w.heap.size ≤ b) : Below w.heap.size w w' :=
  ⟨h.os.trans ha.os, h.tape.trans ha.tape, h.output.trans ha.output, Nat.le_trans ha.size h.size, fun k hk => (h.block k (Nat.lt_of_lt_of_le hk ha.size) (by omega)).trans (ha.block k hk)⟩
def monN : List ByteArray := [⟨#[106, 97, 110]⟩, ⟨#[70, 101, 98]⟩, ⟨#[68, 69, 67]⟩]
def dayN : List ByteArray := [⟨#[115, 117, 110]⟩, ⟨#[77, 111, 110]⟩, ⟨#[115, 97, 116]⟩]
def namesN (i : Nat) : List ByteArray := if i = 3 then monN else if i = 4 then dayN else []
theorem names_small (i : Nat) : ∀ x ∈ namesN i, x.size ≤ 3 := by
  unfold namesN
  split
  · decide
  · split
    · decide
    · intro x hx; cases hx
theorem joinR_size {lo hi : Nat} {NM L : List ByteArray} (hL : L.length ≤ 3) (hp : ∀ p ∈ L, PartF lo hi NM p) (hhi : hi ≤ 59) (hN : ∀ x ∈ NM, x.size ≤ 3) : (joinR L).size ≤ 39 := by
  unfold joinR
  rw [toB_size]
  have h := join_len (L.map (·.data.toList)) [44] 12 (fun x hx => by
    obtain ⟨p, hpL, rfl⟩ := List.mem_map.1 hx
    rw [size_toList]
    exact part_size (hp p hpL) hhi hN)
  rw [List.length_map] at h
  have h2 : L.length * (12 + [(44 : UInt8)].length) ≤ 3 * 13 := Nat.mul_le_mul hL (by decide)
  omega
def topR (i : Nat) : Nat := topOf (highN i) (wkN i)
/-- what the law's text is -/
def TextGives (w : World) (e : Ending) (w' : World) : Prop := ∃ F : Nat → List ByteArray, e = .returned (.string (joinR (F 0) ++ ⟨#[32]⟩ ++ joinR (F 1) ++ ⟨#[32]⟩ ++ joinR (F 2) ++ ⟨#[32]⟩ ++ joinR (F 3) ++ ⟨#[32]⟩ ++ joinR (F 4))) ∧ (∀ i, i < 5 → F i ≠ [] ∧ (F i).length ≤ 3 ∧ ∀ p ∈ F i, PartF (lowN i) (topR i) (namesN i) p) ∧ Below w.heap.size w w'

set_option maxRecDepth 100000 in
set_option maxHeartbeats 6400000 in
theorem text_any (A : Option Addr) (n c : Nat) (w : World) (h : RawN w A n c) : Calls Tryz.prog 11 #[.slice A n c] w (TextGives w) := by
  obtain ⟨Q, hQ⟩ : ∃ Q, TextGives w = Q := ⟨_, rfl⟩
  rw [hQ]
  have HQ := Lib.hid hQ
  have HN := Lib.hid (newDice_any A n c w h)
  clear hQ h
  go_enter Tryz.func11, Tryz.ntmps11
  go_wp2_with fail
  refine HN.out.mono ?_
  rintro e w1 ⟨rfl, ht1, hb1⟩
  have HT1 := Lib.hid ht1
  have HB1 := Lib.hid hb1
  clear ht1 hb1 HN
  go_upto_region 3 with fail
  have hltb : w.heap.size < w1.heap.size := HT1.out.lt
  have b2 := (Below.refl w1.heap.size w1).alloc (Nat.le_refl _) (.cells #[.pointer (some ⟨w.heap.size, 0, none⟩)] 80)
  have HT2 := Lib.hid (HT1.out.keep b2)
  have HB2 := Lib.hid (HB1.out.trans (b2.mono HB1.out.size))
  have HD2 := Lib.hid (box_cell w1 #[.pointer (some ⟨w.heap.size, 0, none⟩)] 80 0)
  have hbd : w1.heap.size ≠ w.heap.size := by omega
  have hlt2 : w1.heap.size < (w1.alloc (.cells #[.pointer (some ⟨w.heap.size, 0, none⟩)] 80)).heap.size := by simp
  obtain ⟨b, hb⟩ : ∃ b, w.heap.size = b := ⟨_, rfl⟩
  have HBb := Lib.hid (show w.heap.size ≤ b by omega)
  rw [hb] at HT2 HD2 hbd hlt2 HB2
  rw [hb]
  have HB2 : Hid (Below w.heap.size w (w1.alloc (.cells #[.pointer (some ⟨b, 0, none⟩)] 80))) := Lib.hid (by rw [hb]; exact HB2.out)
  clear hb b2 hltb HT1 HB1
  generalize w1.alloc (.cells #[.pointer (some ⟨b, 0, none⟩)] 80) = w2 at *
  generalize w1.heap.size = bd at *
  have HDk : Hid (∀ W, Only b w2 W → W.cell? ⟨bd, 0, none⟩ = some (.pointer (some ⟨b, 0, none⟩))) := Lib.hid (fun W hW => (World.cell?_of_block (a := ⟨bd, 0, none⟩) (hW.block bd hlt2 hbd)).trans HD2.out)
  clear HD2 hlt2
  go_wp2_with fail
  refine (field_any b bd 0 0 59 none 0 0 [] _ (HDk.out _ (Only.refl b w2)) hbd HT2.out (by decide) (by decide) (by decide) rfl (by decide) (fun x hx => by cases hx) (fun h => absurd h (by decide))).mono ?_
  rintro e w3 ⟨L0, rfl, n0, l0, p0, t0, o0⟩
  have HT3 := Lib.hid t0
  have HO0 := Lib.hid ((Only.refl b w2).trans o0)
  have sz0 := joinR_size l0 p0 (by decide) (fun x hx => names_small 0 x hx)
  have HP0 := Lib.hid (show L0 ≠ [] ∧ L0.length ≤ 3 ∧ ∀ p ∈ L0, PartF (lowN 0) (topR 0) (namesN 0) p from ⟨n0, l0, p0⟩)
  clear n0 l0 p0 t0 o0 HT2
  obtain ⟨f0, hf0⟩ : ∃ f, joinR L0 = f := ⟨_, rfl⟩
  have HF0 := Lib.hid hf0
  rw [hf0] at sz0
  rw [hf0]
  clear hf0
  go_wp2_with fail
  refine (field_any b bd 30 0 23 none 0 0 [] _ (HDk.out _ HO0.out) hbd HT3.out (by decide) (by decide) (by decide) rfl (by decide) (fun x hx => by cases hx) (fun h => absurd h (by decide))).mono ?_
  rintro e w4 ⟨L1, rfl, n1, l1, p1, t1, o1⟩
  have HT4 := Lib.hid t1
  have HO1 := Lib.hid (HO0.out.trans o1)
  have sz1 := joinR_size l1 p1 (by decide) (fun x hx => names_small 1 x hx)
  have HP1 := Lib.hid (show L1 ≠ [] ∧ L1.length ≤ 3 ∧ ∀ p ∈ L1, PartF (lowN 1) (topR 1) (namesN 1) p from ⟨n1, l1, p1⟩)
  clear n1 l1 p1 t1 o1 HT3
  obtain ⟨f1, hf1⟩ : ∃ f, joinR L1 = f := ⟨_, rfl⟩
  have HF1 := Lib.hid hf1
  rw [hf1] at sz1
  rw [hf1]
  clear hf1
  go_wp2_with fail
  refine (field_any b bd 60 1 31 none 0 0 [] _ (HDk.out _ HO1.out) hbd HT4.out (by decide) (by decide) (by decide) rfl (by decide) (fun x hx => by cases hx) (fun h => absurd h (by decide))).mono ?_
  rintro e w5 ⟨L2, rfl, n2, l2, p2, t2, o2⟩
  have HT5 := Lib.hid t2
  have HO2 := Lib.hid (HO1.out.trans o2)
  have sz2 := joinR_size l2 p2 (by decide) (fun x hx => names_small 2 x hx)
  have HP2 := Lib.hid (show L2 ≠ [] ∧ L2.length ≤ 3 ∧ ∀ p ∈ L2, PartF (lowN 2) (topR 2) (namesN 2) p from ⟨n2, l2, p2⟩)
  clear n2 l2 p2 t2 o2 HT4
  obtain ⟨f2, hf2⟩ : ∃ f, joinR L2 = f := ⟨_, rfl⟩
  have HF2 := Lib.hid hf2
  rw [hf2] at sz2
  rw [hf2]
  clear hf2
  go_wp2_with fail
  have bl3 := (Below.refl w5.heap.size w5).alloc (Nat.le_refl _) (.cells ((monN).map Value.string).toArray 9)
  have HTl3 := Lib.hid (HT5.out.keep bl3)
  have HOl3 := Lib.hid (HO2.out.trans (Only.of (b := b) bl3 (Nat.le_refl _)))
  have hlb3 := HT5.out.lt
  refine (field_any b bd 90 1 12 (some ⟨w5.heap.size, 0, none⟩) 3 3 monN _ (HDk.out _ HOl3.out) hbd HTl3.out (by decide) (by decide) (by decide) rfl (by decide) (by decide) (fun _ => ⟨w5.heap.size, rfl, by simp, by omega, fun j hj => by have := box_cell w5 ((monN).map Value.string).toArray 9 j; rw [this]; simp [hj]⟩)).mono ?_
  rintro e w6 ⟨L3, rfl, n3, l3, p3, t3, o3⟩
  have HT6 := Lib.hid t3
  have HO3 := Lib.hid (HOl3.out.trans o3)
  clear bl3 HTl3 HOl3 hlb3
  have sz3 := joinR_size l3 p3 (by decide) (fun x hx => names_small 3 x hx)
  have HP3 := Lib.hid (show L3 ≠ [] ∧ L3.length ≤ 3 ∧ ∀ p ∈ L3, PartF (lowN 3) (topR 3) (namesN 3) p from ⟨n3, l3, p3⟩)
  clear n3 l3 p3 t3 o3 HT5
  obtain ⟨f3, hf3⟩ : ∃ f, joinR L3 = f := ⟨_, rfl⟩
  have HF3 := Lib.hid hf3
  rw [hf3] at sz3
  rw [hf3]
  clear hf3
  go_wp2_with fail
  have bl4 := (Below.refl w6.heap.size w6).alloc (Nat.le_refl _) (.cells ((dayN).map Value.string).toArray 9)
  have HTl4 := Lib.hid (HT6.out.keep bl4)
  have HOl4 := Lib.hid (HO3.out.trans (Only.of (b := b) bl4 (Nat.le_refl _)))
  have hlb4 := HT6.out.lt
  refine (field_any b bd 120 0 7 (some ⟨w6.heap.size, 0, none⟩) 3 3 dayN _ (HDk.out _ HOl4.out) hbd HTl4.out (by decide) (by decide) (by decide) rfl (by decide) (by decide) (fun _ => ⟨w6.heap.size, rfl, by simp, by omega, fun j hj => by have := box_cell w6 ((dayN).map Value.string).toArray 9 j; rw [this]; simp [hj]⟩)).mono ?_
  rintro e w7 ⟨L4, rfl, n4, l4, p4, t4, o4⟩
  have HT7 := Lib.hid t4
  have HO4 := Lib.hid (HOl4.out.trans o4)
  clear bl4 HTl4 HOl4 hlb4
  have sz4 := joinR_size l4 p4 (by decide) (fun x hx => names_small 4 x hx)
  have HP4 := Lib.hid (show L4 ≠ [] ∧ L4.length ≤ 3 ∧ ∀ p ∈ L4, PartF (lowN 4) (topR 4) (namesN 4) p from ⟨n4, l4, p4⟩)
  clear n4 l4 p4 t4 o4 HT6
  obtain ⟨f4, hf4⟩ : ∃ f, joinR L4 = f := ⟨_, rfl⟩
  have HF4 := Lib.hid hf4
  rw [hf4] at sz4
  rw [hf4]
  clear hf4
  go_wp2_with fail
  rw [← HQ.out]
  refine ⟨fun i => if i = 0 then L0 else if i = 1 then L1 else if i = 2 then L2 else if i = 3 then L3 else L4, ?_, ?_, HO4.out.below HB2.out HBb.out⟩
  · rw [← HF0.out, ← HF1.out, ← HF2.out, ← HF3.out, ← HF4.out]
    rfl
  · intro i hi
    have hh : i = 0 ∨ i = 1 ∨ i = 2 ∨ i = 3 ∨ i = 4 := by omega
    rcases hh with rfl | rfl | rfl | rfl | rfl
    · exact HP0.out
    · exact HP1.out
    · exact HP2.out
    · exact HP3.out
    · exact HP4.out

end Go.Proofs.YtlhaidibcocooaaGreatDoor
