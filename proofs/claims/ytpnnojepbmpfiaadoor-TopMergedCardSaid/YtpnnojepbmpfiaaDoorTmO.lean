/- TopMerged: is there a conflict (slices.ContainsFunc); is a merge one sure piece (the closure plain). -/
import Derived.Test.YtpnnojepbmpfiaaDoorTmN
namespace Go.Proofs.YtpnnojepbmpfiaaDoor
open Go.RowKit

theorem PcL.form {w : World} {v : Value} {Q : List PC} (h : PcL w v Q) : ∃ A c, v = .slice A Q.length c ∧ Q.length ≤ c ∧ ∀ j (hj : j < Q.length), ∃ b p, A = some ⟨b, 0, none⟩ ∧ b < w.heap.size ∧ IsPC w p Q[j] ∧ w.cell? ⟨b, j * 5, none⟩ = some (.bool p.1) ∧ w.cell? ⟨b, j * 5 + 1, none⟩ = some (sv p.2.1) ∧ w.cell? ⟨b, j * 5 + 2, none⟩ = some (sv p.2.2.1) ∧ w.cell? ⟨b, j * 5 + 3, none⟩ = some (sv p.2.2.2.1) ∧ w.cell? ⟨b, j * 5 + 4, none⟩ = some (sv p.2.2.2.2) := by
  obtain ⟨P, A, c, rfl, hc, _, ha, hcell⟩ := h
  have hl := ha.len
  refine ⟨A, c, by rw [← hl], by omega, fun j hj => ?_⟩
  obtain ⟨b, rfl, hb, h2⟩ := hcell (by omega)
  exact ⟨b, P[j]'(by omega), rfl, hb, ha.at j (by omega) hj, h2 j (by omega)⟩
set_option maxHeartbeats 800000 in
theorem isConf_any (c : Bool) (s1 s2 s3 s4 : SV) (w : World) :
    Calls Tryd.prog 9 #[.agg #[.bool c, sv s1, sv s2, sv s3, sv s4]] w fun e w' => e = .returned (.bool c) ∧ Below w.heap.size w w' := by
  obtain ⟨a1, n1, c1⟩ := s1
  obtain ⟨a2, n2, c2⟩ := s2
  obtain ⟨a3, n3, c3⟩ := s3
  obtain ⟨a4, n4, c4⟩ := s4
  go_enter Tryd.func9, Tryd.ntmps9
  go_wp2
  go_ret
  exact ⟨rfl, (Below.refl _ w).alloc (Nat.le_refl _) _⟩
set_option maxRecDepth 100000 in
set_option maxHeartbeats 3200000 in
theorem idxConf_any (Q : List PC) (v : Value) (w : World) (h : PcL w v Q) (hl : Q.length ≤ 10000) :
    Calls Tryd.prog 17 #[v, .func (.func 9) #[] #[]] w fun e w' => ∃ n : Int, e = .returned (.int .i64 n) ∧ (0 ≤ n ↔ ∃ q ∈ Q, q.conf = true) ∧ Below w.heap.size w w' := by
  obtain ⟨A, c, rfl, hc, hcell⟩ := h.form
  obtain ⟨k, hk⟩ : ∃ k, k = Q.length := ⟨_, rfl⟩
  rw [← hk]
  have HK := Lib.hid hk
  have HC := Lib.hid hcell
  have hkc : k ≤ c := by omega
  have hk1 : k ≤ 10000 := by omega
  clear h hcell hk hc hl
  go_enter Tryd.func17, Tryd.ntmps17
  go_wp2_with fail
  go_loopw [8] (fun s8 wr => ∃ i : Nat, s8 = .int .i64 (i : Int) ∧ Hid (i ≤ k) ∧ Hid (∀ j (hj : j < Q.length), j < i → Q[j].conf = false) ∧ Hid (Below w.heap.size w wr)) (fun s8 _ => k - (intOf s8).toNat)
  case atStart => exact ⟨0, rfl, Lib.hid (Nat.zero_le _), Lib.hid (fun _ _ h => absurd h (Nat.not_lt_zero _)), Lib.hid (Below.refl _ _)⟩
  case round =>
    obtain ⟨i, rfl, HI, HN, HB⟩ := hrel
    by_cases hlt : i < k
    · have hltz : (i : Int) < (k : Int) := by omega
      have hiQ : i < Q.length := by rw [← HK.out]; exact hlt
      obtain ⟨b, ⟨cf, ⟨a1, n1, c1⟩, ⟨a2, n2, c2⟩, ⟨a3, n3, c3⟩, ⟨a4, n4, c4⟩⟩, rfl, hb, hp, q0, q1, q2, q3, q4⟩ := HC.out i hiQ
      have d0 := (HB.out.cell (p := ⟨b, i * 5, none⟩) hb).trans q0
      have d1 := (HB.out.cell (p := ⟨b, i * 5 + 1, none⟩) hb).trans q1
      have d2 := (HB.out.cell (p := ⟨b, i * 5 + 2, none⟩) hb).trans q2
      have d3 := (HB.out.cell (p := ⟨b, i * 5 + 3, none⟩) hb).trans q3
      have d4 := (HB.out.cell (p := ⟨b, i * 5 + 4, none⟩) hb).trans q4
      have hcf : cf = Q[i].conf := hp.conf
      have HCf := Lib.hid hcf
      have HMem := Lib.hid (List.getElem_mem hiQ)
      have HCl := Lib.hid (isConf_any cf (a1, n1, c1) (a2, n2, c2) (a3, n3, c3) (a4, n4, c4) wr)
      clear q0 q1 q2 q3 q4 hp hcf
      go_wp2_with fail
      refine HCl.out.mono ?_
      rintro e w2 ⟨rfl, hb2⟩
      have HB2 := Lib.hid (HB.out.trans (hb2.mono HB.out.size))
      clear hb2
      cases cf with
      | true =>
        go_wp2_with fail
        go_ret
        exact ⟨_, rfl, ⟨fun _ => ⟨_, HMem.out, HCf.out.symm⟩, fun _ => by omega⟩, HB2.out⟩
      | false =>
        have HN2 := Lib.hid (show ∀ j (hj : j < Q.length), j < i + 1 → Q[j].conf = false from fun j hj hji => by
          by_cases e : j = i
          · subst e; exact HCf.out.symm
          · exact HN.out j hj (by omega))
        go_wp2_with fail
        exact ⟨⟨i + 1, by go_num, Lib.hid hlt, HN2, HB2⟩, by simp [intOf]; omega⟩
    · have hnz : ¬ (i : Int) < (k : Int) := by omega
      have HF := Lib.hid (show ¬ ∃ q ∈ Q, q.conf = true from fun ⟨q, hq, hc⟩ => by
        obtain ⟨j, hj, rfl⟩ := List.getElem_of_mem hq
        rw [HN.out j hj (by have := HK.out; have := HI.out; omega)] at hc
        cases hc)
      clear hlt
      go_wp2_with fail
      go_ret
      exact ⟨_, rfl, ⟨fun h => by omega, fun h => absurd h HF.out⟩, HB.out⟩
set_option maxHeartbeats 1600000 in
theorem anyConf_any (Q : List PC) (v : Value) (w : World) (h : PcL w v Q) (hl : Q.length ≤ 10000) :
    Calls Tryd.prog 8 #[v, .func (.func 9) #[] #[]] w fun e w' => ∃ f : Bool, e = .returned (.bool f) ∧ (f = true ↔ ∃ q ∈ Q, q.conf = true) ∧ Below w.heap.size w w' := by
  have HC := Lib.hid (idxConf_any Q v w h hl)
  clear h hl
  go_enter Tryd.func8, Tryd.ntmps8
  go_wp2_with fail
  refine HC.out.mono ?_
  rintro e w2 ⟨n, rfl, hn, hb⟩
  have HF := Lib.hid (show ∃ f : Bool, Ending.returned (.bool (decide (0 ≤ n))) = .returned (.bool f) ∧ (f = true ↔ ∃ q ∈ Q, q.conf = true) ∧ Below w.heap.size w w2 from ⟨_, rfl, by rw [← hn]; exact decide_eq_true_iff, hb⟩)
  clear hn hb
  go_wp2_with fail
  go_ret
  exact HF.out
set_option maxRecDepth 100000 in
set_option maxHeartbeats 3200000 in
theorem plain_any (a : List ByteArray) (v va : Value) (w : World) (h : PcL w v (oneP a)) (ha : SL w va a) (hl : a.length ≤ 9223372036854775807) :
    Calls Tryd.prog 7 #[v, va] w fun e w' => e = .returned (.bool true) ∧ Below w.heap.size w w' := by
  obtain ⟨A, c, rfl, hc, hcell⟩ := h.form
  have hs := ha
  obtain ⟨A1, n1, c1, rfl⟩ : ∃ A n c, va = .slice A n c := by obtain ⟨A, c, rfl, _⟩ := ha; exact ⟨_, _, _, rfl⟩
  have hn := ha.len
  by_cases h0 : a = []
  · subst h0
    obtain rfl : n1 = 0 := by simpa using hn
    rw [show (oneP ([] : List ByteArray)).length = 0 from rfl] at *
    clear h hc hcell ha hs hn
    go_enter Tryd.func7, Tryd.ntmps7
    go_wp2_with fail
    go_ret
    exact ⟨rfl, Below.refl _ _⟩
  · have h1 : oneP a = [⟨false, a, [], [], []⟩] := if_neg h0
    have hpos : a.length ≠ 0 := fun e => h0 (List.length_eq_zero_iff.1 e)
    have hnz : ¬ (n1 : Int) = 0 := by omega
    have hnb : ((n1 : Int) == 0) = false := beq_eq_false_iff_ne.2 hnz
    obtain ⟨b, ⟨cf, ⟨x1, y1, z1⟩, r⟩, rfl, hb, hp, q0, q1, _⟩ := hcell 0 (by rw [h1]; simp)
    have hlen : (oneP a).length = 1 := by rw [h1]; rfl
    have hcf : cf = false := by have := hp.conf; simp only [h1, List.getElem_cons_zero] at this; exact this
    have hln := hp.ln
    simp only [h1, List.getElem_cons_zero] at hln
    subst hcf
    rw [hlen] at hc ⊢
    have HEq := Lib.hid (equal_any a a _ _ w hln hs hl)
    rw [decide_eq_true rfl] at HEq
    clear h hcell hp ha hs hln hlen hl h0 h1 hpos hn
    dsimp only [sv] at q1
    go_enter Tryd.func7, Tryd.ntmps7
    go_wp2_with fail
    refine HEq.out.mono ?_
    rintro e w2 ⟨rfl, hb2⟩
    have HB2 := Lib.hid hb2
    clear hb2
    go_wp2_with fail
    go_ret
    exact ⟨rfl, HB2.out⟩
end Go.Proofs.YtpnnojepbmpfiaaDoor
