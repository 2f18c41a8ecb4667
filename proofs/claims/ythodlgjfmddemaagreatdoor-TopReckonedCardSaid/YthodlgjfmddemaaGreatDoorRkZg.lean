/- Decimals in memory: the text. -/
import Derived.Test.YthodlgjfmddemaaGreatDoorRkZf
namespace Go.Proofs.YthodlgjfmddemaaGreatDoor.Rk
open Go.RowKit

def TextP (s : List UInt8) (w : World) (x : Ending) (w' : World) : Prop := x = .returned (.string (toB s)) ∧ Below w.heap.size w w'
set_option maxRecDepth 100000 in
set_option maxHeartbeats 3200000 in
theorem dtext_any (u : Value) (d : Dec) (w : World) (hu : DecV w u d) (hp : Pow w) (hd : d.size ≤ 100000) :
    Calls Tryz.prog 15 #[u] w (TextP d.text w) := by
  have hl : (digs d.n).length ≤ 100000 := by unfold Dec.size at hd; omega
  have hs : d.scale ≤ 100000 := by unfold Dec.size at hd; omega
  have hn : nl d.n ≤ 100000 := nl_digs (by omega)
  obtain ⟨nu, rfl, hnu⟩ := hu
  obtain ⟨A, c, rfl, _, _⟩ := RL.form hnu
  obtain ⟨w1, hw1⟩ : ∃ w1, w1 = w.alloc (.cells #[.bool d.below, .slice A (nl d.n) c, .int .i64 (d.scale : Int)] 48) := ⟨_, rfl⟩
  have hb1 : Below w.heap.size w w1 := by rw [hw1]; exact box1 _ _ _ _
  have h3 : B3 w1 w.heap.size (.bool d.below) (.slice A (nl d.n) c) (.int .i64 (d.scale : Int)) := by rw [hw1]; exact B3.new w _ _ _
  obtain ⟨g, hg⟩ : ∃ g, g = w.heap.size := ⟨_, rfl⟩
  rw [← hg] at h3
  have HDg := Lib.hid (digits_any (.slice A (nl d.n) c) d.n w1 (hnu.keep hb1) (hp.keep hb1) (by omega) (by omega))
  obtain ⟨L, hL⟩ : ∃ L, L = digs d.n := ⟨_, rfl⟩
  obtain ⟨DG, hDG⟩ : ∃ DG, DG = d.digits := ⟨_, rfl⟩
  obtain ⟨m, hm⟩ : ∃ m, m = DG.length := ⟨_, rfl⟩
  have hml : m = max L.length (d.scale + 1) := by rw [hm, hDG, hL]; exact digits_len d
  have hDGv : DG = if L.length ≤ d.scale then List.replicate (d.scale + 1 - L.length) 48 ++ L else L := by rw [hDG, hL]; rfl
  obtain ⟨PL, hPL⟩ : ∃ PL, PL = d.plain := ⟨_, rfl⟩
  have hPLv : PL = DG.take (m - d.scale) ++ (if 0 < d.scale then 46 :: DG.drop (m - d.scale) else []) := by rw [hPL, hm, hDG]; rfl
  have hTv : d.text = if d.below = true ∧ d.n ≠ 0 then 45 :: PL else PL := by rw [hPL]; rfl
  obtain ⟨nn, hnn⟩ : ∃ nn, nn = nl d.n := ⟨_, rfl⟩
  have hn0 : nn = 0 ↔ d.n = 0 := by rw [hnn]; exact nl_eq_zero
  rw [← hL] at HDg hl
  rw [← hnn] at HDg h3 hw1 ⊢
  have hsz := toB_size L
  have hszD := toB_size DG
  rw [← hm] at hszD
  obtain ⟨Q, hQ⟩ : ∃ Q, TextP d.text w = Q := ⟨_, rfl⟩
  rw [hQ]
  have HQ := Lib.hid hQ
  have HW1 := Lib.hid hw1
  have HB3 := Lib.hid h3
  have HB := Lib.hid hb1
  have HG := Lib.hid hg
  have HTv := Lib.hid (And.intro hTv hn0)
  have HPLv := Lib.hid hPLv
  have HDGv := Lib.hid hDGv
  have HMl := Lib.hid (And.intro hm hml)
  have HPL2 := Lib.hid (show PL.length ≤ 300000 by
    rw [hPLv, List.length_append, List.length_take]
    split
    · rw [List.length_cons, List.length_drop]; omega
    · rw [List.length_nil]; omega)
  clear hQ hw1 h3 hb1 hg hTv hn0 hPLv hDGv hPL hm hml hDG hL hnn hnu hp hd hn
  obtain ⟨b, N, s⟩ := d
  dsimp only at *
  go_enter Tryz.func15, Tryz.ntmps15
  go_upto_region 1 with fail
  rw [← HW1.out, ← HG.out]
  obtain ⟨a0, a1, a2, _⟩ := HB3.out.cells
  have hgl := HB3.out.lt
  go_wp2_with fail
  refine HDg.out.mono ?_
  rintro x w2 ⟨rfl, hb2⟩
  have HB2 := Lib.hid hb2
  have c0 := (hb2.cell (p := ⟨g, 0, none⟩) hgl).trans a0
  have c1 := (hb2.cell (p := ⟨g, 1, none⟩) hgl).trans a1
  have c2 := (hb2.cell (p := ⟨g, 2, none⟩) hgl).trans a2
  clear a0 a1 a2 hb2
  go_upto_if 12 with fail
  go_cut [3] (fun s3 wx => s3 = .string (toB DG) ∧ Hid (Below w2.heap.size w2 wx))
  case first =>
    by_cases hle : L.length ≤ s
    · have hlez : (L.length : Int) ≤ (s : Int) := by omega
      obtain ⟨k, hk⟩ : ∃ k, k = s + 1 - L.length := ⟨_, rfl⟩
      have e1 : IntKind.i64.wrap ((s : Int) + 1) = (s : Int) + 1 := IntWalk.i64_in _ (by omega)
      have e2 : IntKind.i64.wrap ((s : Int) + 1 - (L.length : Int)) = (k : Int) := by
        rw [show (s : Int) + 1 - (L.length : Int) = (k : Int) by omega]
        exact IntWalk.i64_in _ (by omega)
      obtain ⟨R, hR⟩ : ∃ R, R = List.replicate k (48 : UInt8) := ⟨_, rfl⟩
      have hcat : toB R ++ toB L = toB DG := by
        have := HDGv.out
        rw [if_pos hle, ← hk, ← hR] at this
        rw [toB_app, this]
      have hRsz : (toB R).size = k := by rw [toB_size, hR, List.length_replicate]
      have hnlt : ¬ 9223372036854775807 < k + L.length := by omega
      have HRep := Lib.hid (fun W => hR ▸ rep_any k W (by omega))
      clear hle hk hR
      go_wp2_with fail
      refine (HRep.out _).mono ?_
      rintro x w3 ⟨rfl, hb3⟩
      have HB3' := Lib.hid hb3
      clear hb3
      go_wp2_with fail
      go_meet
      exact ⟨rfl, HB3'⟩
    · have hlez : ¬ (L.length : Int) ≤ (s : Int) := by omega
      have HE := Lib.hid (show L = DG by have := HDGv.out; rw [if_neg hle] at this; exact this.symm)
      clear hle
      go_wp2_with fail
      go_meet
      exact ⟨by rw [HE.out], Lib.hid (Below.refl _ _)⟩
  case rest =>
  rename World => w3
  obtain ⟨rfl, HB3'⟩ := hcut
  have d0 := (HB3'.out.cell (p := ⟨g, 0, none⟩) (Nat.lt_of_lt_of_le hgl HB2.out.size)).trans c0
  have d1 := (HB3'.out.cell (p := ⟨g, 1, none⟩) (Nat.lt_of_lt_of_le hgl HB2.out.size)).trans c1
  have d2 := (HB3'.out.cell (p := ⟨g, 2, none⟩) (Nat.lt_of_lt_of_le hgl HB2.out.size)).trans c2
  have HBz := Lib.hid (HB.out.trans ((HB2.out.trans (HB3'.out.mono HB2.out.size)).mono HB.out.size))
  clear c0 c1 c2 hgl HDg hsz
  obtain ⟨a, ha⟩ : ∃ a, a = m - s := ⟨_, rfl⟩
  have hms : s ≤ m := by have := HMl.out.2; omega
  have hmb : m ≤ 200001 := by have := HMl.out.2; omega
  have e3 : IntKind.i64.wrap ((m : Int) - (s : Int)) = (a : Int) := by
    rw [show (m : Int) - (s : Int) = (a : Int) by omega]
    exact IntWalk.i64_in _ (by omega)
  have ham : (a : Int) ≤ (m : Int) := by omega
  have ham2 : a ≤ m := by omega
  have hx1 : (toB DG).extract 0 a = toB (DG.take a) := by rw [toB_ext, List.drop_zero, Nat.sub_zero]
  have hx2 : (toB DG).extract a m = toB (DG.drop a) := by
    rw [toB_ext, List.take_of_length_le]
    rw [List.length_drop, ← HMl.out.1]
    exact Nat.le_refl _
  have HPv := Lib.hid (show PL = DG.take a ++ (if 0 < s then 46 :: DG.drop a else []) by rw [ha]; exact HPLv.out)
  have hz1 := toB_size (DG.take a)
  have hz2 := toB_size (DG.drop a)
  rw [List.length_take, ← HMl.out.1, Nat.min_eq_left ham2] at hz1
  rw [List.length_drop, ← HMl.out.1] at hz2
  clear ha HPLv
  go_upto_if 31 with fail
  go_cut [4] (fun s4 wx => s4 = .string (toB PL) ∧ wx = w3)
  case first =>
    by_cases h0 : 0 < s
    · have h0z : (s : Int) > 0 := by omega
      have hc1 : ByteArray.mk #[46] ++ toB (DG.drop a) = toB (46 :: DG.drop a) := toB_app [46] _
      have hc2 : toB (DG.take a) ++ toB (46 :: DG.drop a) = toB PL := by
        have := HPv.out
        rw [if_pos h0] at this
        rw [toB_app, this]
      have hz3 : (toB (46 :: DG.drop a)).size = m - a + 1 := by rw [toB_size, List.length_cons, List.length_drop, ← HMl.out.1]
      have hnl1 : ¬ 9223372036854775807 < 1 + (m - a) := by omega
      have hnl2 : ¬ 9223372036854775807 < a + (m - a + 1) := by omega
      generalize DG.take a = T1 at *
      generalize 46 :: DG.drop a = T3 at *
      generalize DG.drop a = T2 at *
      clear h0
      go_wp2_with fail
      go_meet
      exact ⟨rfl, rfl⟩
    · have h0z : ¬ (s : Int) > 0 := by omega
      have HE := Lib.hid (show DG.take a = PL by have := HPv.out; rw [if_neg h0, List.append_nil] at this; exact this.symm)
      clear h0
      generalize DG.take a = T1 at *
      go_wp2_with fail
      go_meet
      exact ⟨by rw [HE.out], rfl⟩
  case rest =>
  obtain ⟨rfl, hwx⟩ := hcut
  obtain rfl := hwx.symm
  have hPs := toB_size PL
  have hc4 : ByteArray.mk #[45] ++ toB PL = toB (45 :: PL) := toB_app [45] _
  have hnl3 : ¬ 9223372036854775807 < 1 + PL.length := by have := HPL2.out; omega
  clear hx1 hx2 hz1 hz2 e3 ham ham2 hszD
  by_cases hneg : b = true ∧ N ≠ 0
  · obtain ⟨rfl, hN⟩ := hneg
    have hnz : (nn : Int) > 0 := by have := HTv.out.2; omega
    have HF := Lib.hid (show TextP (Dec.text ⟨true, N, s⟩) w (.returned (.string (toB (45 :: PL)))) w3 from ⟨by rw [HTv.out.1, if_pos ⟨rfl, hN⟩], HBz.out⟩)
    clear hN
    go_wp2_with fail
    rw [← HQ.out]
    exact HF.out
  · have HF := Lib.hid (show TextP (Dec.text ⟨b, N, s⟩) w (.returned (.string (toB PL))) w3 from ⟨by rw [HTv.out.1, if_neg hneg], HBz.out⟩)
    cases b with
    | false =>
      clear hneg
      go_wp2_with fail
      rw [← HQ.out]
      exact HF.out
    | true =>
      have hN : N = 0 := by
        by_cases h : N = 0
        · exact h
        · exact absurd ⟨rfl, h⟩ hneg
      have hnz : nn = 0 := HTv.out.2.2 hN
      subst hnz
      clear hneg hN
      go_wp2_with fail
      rw [← HQ.out]
      exact HF.out
end Go.Proofs.YthodlgjfmddemaaGreatDoor.Rk
