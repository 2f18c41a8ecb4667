/- Shell variables: where a name is (BinarySearchFunc, seek, get). -/
import Derived.Test.YtiapondfajmkaaaGreatDoorSvL
import Derived.Laws.Shifts
import Derived.WalkArith
namespace Go.Proofs.YtiapondfajmkaaaGreatDoor
open Go.RowKit

def cmpS (a b : ByteArray) : Int := if lessS a b = true then -1 else if lessS b a = true then 1 else 0
theorem cmpS_lt {a b : ByteArray} : cmpS a b < 0 ↔ lessS a b = true := by
  unfold cmpS
  split
  · rename_i h; simp [h]
  · rename_i h; split <;> simp [h]
theorem cmpS_zero {a b : ByteArray} : cmpS a b = 0 ↔ a = b := by
  unfold cmpS
  split
  · rename_i h
    refine ⟨(fun e => by cases e), (fun e => by rw [e, lessS_irrefl] at h; cases h)⟩
  · rename_i h
    split
    · rename_i h2
      refine ⟨(fun e => by cases e), (fun e => by rw [e, lessS_irrefl] at h2; cases h2)⟩
    · rename_i h2
      exact ⟨fun _ => lessS_tri (by simpa using h) (by simpa using h2), fun _ => rfl⟩
theorem isNaN_any (s : ByteArray) (w : World) : Calls Tryz.prog 128 #[.string s] w fun e w' => e = .returned (.bool false) ∧ w = w' := by
  have h : (s.toList == s.toList) = true := beq_self_eq_true _
  go_enter Tryz.func128, Tryz.ntmps128
  go_wp2_with fail
  go_ret
  exact ⟨rfl, rfl⟩
set_option maxRecDepth 100000 in
set_option maxHeartbeats 1600000 in
theorem compare_any (a b : ByteArray) (w : World) : Calls Tryz.prog 85 #[.string a, .string b] w fun e w' => e = .returned (.int .i64 (cmpS a b)) ∧ w = w' := by
  have HN := Lib.hid (fun s => isNaN_any s w)
  cases h1 : lessS a b
  · cases h2 : lessS b a
    · have e : cmpS a b = 0 := by unfold cmpS; rw [h1, h2]; rfl
      rw [e]
      have f1 : Op.bytesLess a.toList b.toList = false := h1
      have f2 : Op.bytesLess b.toList a.toList = false := h2
      have f3 : (a.toList == b.toList) = true := by rw [lessS_tri h1 h2]; exact beq_self_eq_true _
      clear h1 h2 e
      go_enter Tryz.func85, Tryz.ntmps85
      go_wp2_with (go_at_call 128; refine (HN.out _).mono ?_; rintro e w2 ⟨rfl, rfl⟩)
      go_ret
      exact ⟨rfl, rfl⟩
    · have e : cmpS a b = 1 := by unfold cmpS; rw [h1, h2]; rfl
      rw [e]
      have f1 : Op.bytesLess a.toList b.toList = false := h1
      have f2 : Op.bytesLess b.toList a.toList = true := h2
      have f3 : (a.toList == b.toList) = false := by
        cases h : (a.toList == b.toList)
        · rfl
        · rw [(Lib.bytes_beq_iff _ _).1 h, lessS_irrefl] at h2
          cases h2
      clear h1 h2 e
      go_enter Tryz.func85, Tryz.ntmps85
      go_wp2_with (go_at_call 128; refine (HN.out _).mono ?_; rintro e w2 ⟨rfl, rfl⟩)
      go_ret
      exact ⟨rfl, rfl⟩
  · have e : cmpS a b = -1 := by unfold cmpS; rw [h1]; rfl
    rw [e]
    have f1 : Op.bytesLess a.toList b.toList = true := h1
    clear h1 e
    go_enter Tryz.func85, Tryz.ntmps85
    go_wp2_with (go_at_call 128; refine (HN.out _).mono ?_; rintro e w2 ⟨rfl, rfl⟩)
    go_ret
    exact ⟨rfl, rfl⟩
theorem seekCmp_any (v : VarV) (s : SV) (t : ByteArray) (W : World) : Calls Tryz.prog 84 #[aggV (v, s), .string t] W fun e W' => e = .returned (.int .i64 (cmpS v.nm t)) ∧ Below W.heap.size W W' := by
  obtain ⟨sA, sn, sc⟩ := s
  obtain ⟨n, vl, il, ls, ex, fx⟩ := v
  unfold aggV sv
  have HC := Lib.hid (fun W => compare_any n t W)
  generalize cmpS n t = R at *
  have HB := Lib.hid ((Below.refl _ W).alloc (Nat.le_refl _) (.cells #[.string n, .string vl, .bool il, .slice sA sn sc, .bool ex, .bool fx] 32))
  simp only []
  go_enter Tryz.func84, Tryz.ntmps84
  go_wp2_with (go_at_call 85; refine (HC.out _).mono ?_; rintro e w2 ⟨rfl, rfl⟩)
  go_ret
  exact ⟨rfl, HB.out⟩
theorem cntV_of {L : List VarV} {t : ByteArray} {i : Nat} (hi : i ≤ L.length) (h1 : ∀ j (h : j < L.length), j < i → lessS L[j].nm t = true) (h2 : ∀ j (h : j < L.length), i ≤ j → lessS L[j].nm t = false) : cntV L t = i := by
  unfold cntV
  rw [← List.take_append_drop i L, List.countP_append]
  have a1 : (L.take i).countP (fun v => lessS v.nm t) = i := by
    rw [List.countP_eq_length.2, List.length_take, Nat.min_eq_left hi]
    intro x hx
    obtain ⟨j, hj, rfl⟩ := List.getElem_of_mem hx
    rw [List.length_take] at hj
    rw [List.getElem_take]
    exact h1 j (by omega) (by omega)
  have a2 : (L.drop i).countP (fun v => lessS v.nm t) = 0 := by
    rw [List.countP_eq_zero]
    intro x hx
    obtain ⟨j, hj, rfl⟩ := List.getElem_of_mem hx
    rw [List.length_drop] at hj
    rw [List.getElem_drop, h2 (i + j) (by omega) (by omega)]
    decide
  rw [a1, a2]
  rfl
theorem rise_lt {L : List VarV} (hL : Rises L) {i j : Nat} (hi : i < j) (hj : j < L.length) : lessS L[i].nm L[j].nm = true := List.pairwise_iff_getElem.1 hL.pair i j (by omega) hj hi
def SeekP (L : List VarV) (t : ByteArray) (w : World) (e : Ending) (w' : World) : Prop := e = .returned (.tuple #[.int .i64 ((cntV L t : Nat) : Int), .bool (hasV L t)]) ∧ Below w.heap.size w w'
set_option maxRecDepth 100000 in
set_option maxHeartbeats 3200000 in
theorem search_any (L : List VarV) (t : ByteArray) (A : Option Addr) (n c : Nat) (w : World) (hv : VL w (.slice A n c) L) (hr : Rises L) (hn : L.length ≤ 2000) :
    Calls Tryz.prog 83 #[.slice A n c, .string t, .func (.func 84) #[] #[]] w (SeekP L t w) := by
  obtain rfl := (VL.at hv).1
  obtain ⟨Q, hQ⟩ : ∃ Q, SeekP L t w = Q := ⟨_, rfl⟩
  rw [hQ]
  have HQ := Lib.hid (fun e w' (h : SeekP L t w e w') => (show Q e w' from hQ ▸ h))
  have HV := Lib.hid hv
  have HR := Lib.hid hr
  clear hQ hv hr
  go_enter Tryz.func83, Tryz.ntmps83
  go_wp2_with fail
  go_loopw [9, 10] (fun s9 s10 wr => ∃ lo hi : Nat, s9 = .int .i64 (lo : Int) ∧ s10 = .int .i64 (hi : Int) ∧ Hid (lo ≤ hi ∧ hi ≤ L.length) ∧ Hid (∀ j (h : j < L.length), j < lo → lessS L[j].nm t = true) ∧ Hid (∀ j (h : j < L.length), hi ≤ j → lessS L[j].nm t = false) ∧ Hid (Below w.heap.size w wr)) (fun s9 s10 _ => (intOf s10).toNat - (intOf s9).toNat)
  case atStart => exact ⟨0, L.length, rfl, rfl, Lib.hid ⟨Nat.zero_le _, Nat.le_refl _⟩, Lib.hid (fun j h hj => absurd hj (Nat.not_lt_zero _)), Lib.hid (fun j h hj => absurd h (by omega)), Lib.hid (Below.refl _ _)⟩
  case round =>
    obtain ⟨lo, hi, rfl, rfl, HI, HL, HH, HB⟩ := hrel
    by_cases hlt : lo < hi
    · obtain ⟨m, hm⟩ : ∃ m, m = (lo + hi) / 2 := ⟨_, rfl⟩
      have hm1 : lo ≤ m ∧ m < hi := by omega
      have hmL : m < L.length := by have := HI.out.2; omega
      have hhL : hi ≤ 2000 := by have := HI.out.2; omega
      have hltz : (lo : Int) < (hi : Int) := by omega
      obtain ⟨_, _, _, hat⟩ := VL.at (HV.out.keep HB.out)
      obtain ⟨b, off, s, hA, hb, hsl, c0, c1, c2, c3, c4, c5⟩ := hat m hmL
      clear hat hsl
      subst hA
      have HX1 := Lib.hid (fun (h : lessS L[m].nm t = true) j (hj : j < L.length) (hjm : j < m + 1) => (show lessS L[j].nm t = true by
        by_cases e : j = m
        · subst e; exact h
        · exact lessS_trans (rise_lt HR.out (by omega) hmL) h))
      have HX2 := Lib.hid (fun (h : lessS L[m].nm t = false) j (hj : j < L.length) (hjm : m ≤ j) => (show lessS L[j].nm t = false by
        by_cases e : j = m
        · subst e; exact h
        · cases h2 : lessS L[j].nm t
          · rfl
          · have := lessS_trans (rise_lt HR.out (show m < j by omega) hj) h2
            rw [h] at this
            cases this))
      generalize L[m] = x at *
      obtain ⟨sA, sn, sc⟩ := s
      unfold sv at c3
      have hmz : (m : Int) < (L.length : Int) := by omega
      have HC := Lib.hid (seekCmp_any x (sA, sn, sc) t wr)
      have hs : IntKind.i64.wrap ((lo : Int) + (hi : Int)) = ((lo + hi : Nat) : Int) := by
        rw [show (lo : Int) + (hi : Int) = ((lo + hi : Nat) : Int) by omega]
        exact IntWalk.i64_in _ (by omega)
      go_upto_region 5 with fail
      have hmd : ((lo : Int) + (hi : Int)) / 2 = (m : Int) := by omega
      rw [hmd]
      have hmi : m + 1 ≤ L.length := hmL
      cases hx : lessS x.nm t
      · have hcz : ¬ cmpS x.nm t < 0 := fun h => by rw [cmpS_lt.1 h] at hx; cases hx
        have HX := Lib.hid (HX2.out hx)
        have HI2 := Lib.hid (show lo ≤ m ∧ m ≤ L.length by omega)
        generalize cmpS x.nm t = R at *
        clear hx HX1 HX2 HI HH hmd hs hm
        go_wp2_with (go_at_call 84; refine HC.out.mono ?_; rintro e w2 ⟨rfl, hb2⟩)
        exact ⟨⟨lo, m, rfl, rfl, HI2, HL, HX, Lib.hid (HB.out.trans (hb2.mono HB.out.size))⟩, by simp [intOf]; omega⟩
      · have hcz : cmpS x.nm t < 0 := cmpS_lt.2 hx
        have HX := Lib.hid (HX1.out hx)
        have HI2 := Lib.hid (show m + 1 ≤ hi ∧ hi ≤ L.length from ⟨hm1.2, HI.out.2⟩)
        have hm2 : IntKind.i64.wrap ((m : Int) + 1) = ((m + 1 : Nat) : Int) := IntWalk.i64_in _ (by omega)
        generalize cmpS x.nm t = R at *
        clear hx HX1 HX2 HI HL hmd hs hm
        go_wp2_with (go_at_call 84; refine HC.out.mono ?_; rintro e w2 ⟨rfl, hb2⟩)
        exact ⟨⟨m + 1, hi, by simp, rfl, HI2, HX, HH, Lib.hid (HB.out.trans (hb2.mono HB.out.size))⟩, by simp [intOf]; omega⟩
    · have hltz : ¬ (lo : Int) < (hi : Int) := by omega
      obtain rfl : lo = hi := by have := HI.out.1; omega
      have hct : cntV L t = lo := cntV_of HI.out.2 HL.out HH.out
      by_cases hl : lo < L.length
      · have hlz : (lo : Int) < (L.length : Int) := by omega
        have hlz0 : (0 : Int) ≤ (lo : Int) := by omega
        obtain ⟨_, _, _, hat⟩ := VL.at (HV.out.keep HB.out)
        obtain ⟨b, off, s, hA, hb, hsl, c0, c1, c2, c3, c4, c5⟩ := hat lo hl
        clear hat hsl
        subst hA
        have hhs : hasV L t = decide (cmpS L[lo].nm t = 0) := by
          unfold hasV
          rw [hct, List.getElem?_eq_getElem hl]
          simp only []
          rw [Bool.eq_iff_iff, decide_eq_true_iff, cmpS_zero]
          exact Lib.bytes_beq_iff _ _
        generalize L[lo] = x at *
        obtain ⟨sA, sn, sc⟩ := s
        unfold sv at c3
        have HC := Lib.hid (seekCmp_any x (sA, sn, sc) t wr)
        have HF := Lib.hid (fun w2 (h : Below wr.heap.size wr w2) => HQ.out _ w2 (show SeekP L t w (.returned (.tuple #[.int .i64 (lo : Int), .bool (decide (cmpS x.nm t = 0))])) w2 from ⟨by rw [hct, hhs], HB.out.trans (h.mono HB.out.size)⟩))
        generalize cmpS x.nm t = R at *
        clear hct hhs HI HL HH
        by_cases hR : R = 0
        · have e1 : (R == 0) = true := by rw [hR]; rfl
          have e2 : decide (R = 0) = true := decide_eq_true hR
          rw [e2] at HF
          clear hR e2
          go_wp2_with (go_at_call 84; refine HC.out.mono ?_; rintro e w2 ⟨rfl, hb2⟩)
          all_goals first | exact HF.out _ hb2 | exact bodyPost_ret (v := .tuple #[.int .i64 (lo : Int), .bool true]) (by simp [results, Tryz.results83, go_sem]) rfl (HF.out _ hb2)
        · have e1 : (R == 0) = false := beq_eq_false_iff_ne.2 hR
          have e2 : decide (R = 0) = false := decide_eq_false hR
          rw [e2] at HF
          clear e2
          go_wp2_with (go_at_call 84; refine HC.out.mono ?_; rintro e w2 ⟨rfl, hb2⟩)
          all_goals first | exact HF.out _ hb2 | exact bodyPost_ret (v := .tuple #[.int .i64 (lo : Int), .bool false]) (by simp [results, Tryz.results83, go_sem]) rfl (HF.out _ hb2)
      · have hlz : ¬ (lo : Int) < (L.length : Int) := by omega
        have hhs : hasV L t = false := by
          unfold hasV
          rw [hct, List.getElem?_eq_none (by omega)]
        have HF := Lib.hid (HQ.out _ wr (show SeekP L t w (.returned (.tuple #[.int .i64 (lo : Int), .bool false])) wr from ⟨by rw [hct, hhs], HB.out⟩))
        clear hct hhs HI HL HH
        go_wp2_with fail
        all_goals first | exact HF.out | exact bodyPost_ret (v := .tuple #[.int .i64 (lo : Int), .bool false]) (by simp [results, Tryz.results83, go_sem]) rfl HF.out
end Go.Proofs.YtiapondfajmkaaaGreatDoor
