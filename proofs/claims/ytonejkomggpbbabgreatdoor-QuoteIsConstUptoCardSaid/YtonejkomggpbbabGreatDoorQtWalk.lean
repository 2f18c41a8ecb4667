/- QuoteIsConst, the law's walk: a quoted text is one word, whose constant is the text. -/
import Derived.Test.YtonejkomggpbbabGreatDoorQtWo
import Derived.Test.YtonejkomggpbbabGreatDoorQtRq
import Derived.Test.YtonejkomggpbbabGreatDoorQtConst
namespace Go.Proofs.YtonejkomggpbbabGreatDoor
open Go.RowKit Go.Shelf

theorem esc_zero : ∀ {s : List UInt8}, (0 : UInt8) ∉ s → (0 : UInt8) ∉ esc s
  | [], _ => by simp [esc]
  | c :: r, h => by
    simp only [List.mem_cons, not_or] at h
    have ih := esc_zero h.2
    unfold esc
    split
    · simp [ih]
    · simp [ih, h.1]
theorem ib_zero (l : List UInt8) : (0 : Int) ≤ Lib.indexByte l 0 ↔ (0 : UInt8) ∈ l := by
  have h := Lib.contains_iff_indexByte l 0
  constructor
  · intro h0
    have : l.contains 0 = true := by rw [h]; exact decide_eq_true h0
    simpa using this
  · intro h0
    have : l.contains 0 = true := by simpa using h0
    rw [h] at this
    exact of_decide_eq_true this
theorem quo_zero {s : List UInt8} (h : ¬ (0 : Int) ≤ Lib.indexByte s 0) : ¬ (0 : Int) ≤ Lib.indexByte (quo s) 0 := by
  rw [ib_zero] at h ⊢
  unfold quo
  split
  · exact h
  · simp [esc_zero h]
set_option maxRecDepth 100000 in
set_option maxHeartbeats 3200000 in
theorem quote_walk (s : List UInt8) (w : World) (hs : s.length ≤ 1048576) (hm : ML w) :
    Calls Tryz.prog 3 #[.string (toB s)] w fun e w' => e = .returned (.bool true) ∧ Below w.heap.size w w' := by
  have HL := Lib.hid (landed_any w)
  have HM := Lib.hid (fun W (hb : Below w.heap.size w W) => hm.below hb)
  have HQ := Lib.hid (fun W (hb : Below w.heap.size w W) => quote_any s hs W (hm.below hb))
  have HR := Lib.hid (fun W (hb : Below w.heap.size w W) => rquote_any s hs W (hm.below hb))
  have hI : ∀ W, Calls Tryz.prog 7 #[.string (toB s), .int .u8 0] W fun e w' => e = .returned (.int .i64 (Lib.indexByte s 0)) ∧ w' = W := fun W => Tryz.strings_IndexByte (toB s) 0 W
  have HI := Lib.hid hI
  have hqz := toB_size (quo s)
  have HZ := Lib.hid (fun h => quo_zero (s := s) h)
  have HW := Lib.hid (fun W h1 h2 => wWord_any (quo s) s W (qr_quo s) (quo_ne s) h1 h2)
  have hee : ((toB (quo s)).toList != (toB (quo s)).toList) = false := by simp
  have hes : ((toB s).toList == (toB s).toList) = true := by simp
  clear hm hI
  generalize quo s = q at *
  go_enter Tryz.func3, Tryz.ntmps3
  go_wp2_with fail
  refine HL.out.mono ?_
  rintro e w1 ⟨rfl, hb1⟩
  have HB1 := Lib.hid hb1
  clear hb1
  go_wp2_with fail
  refine (HQ.out w1 HB1.out).mono ?_
  rintro e w2 ⟨rfl, hb2⟩
  have HB2 := Lib.hid (HB1.out.trans (hb2.mono HB1.out.size))
  clear hb2
  go_wp2_with fail
  refine (HR.out w2 HB2.out).mono ?_
  rintro e w3 ⟨rfl, hb3⟩
  have HB3 := Lib.hid (HB2.out.trans (hb3.mono HB2.out.size))
  clear hb3
  by_cases h0 : (0 : Int) ≤ Lib.indexByte s 0
  · go_wp2_with (go_at_call 7; refine (HI.out _).mono ?_; rintro e w4 ⟨rfl, hw4⟩; rw [hw4])
    go_ret
    exact ⟨rfl, HB3.out⟩
  · by_cases h1 : 16384 < q.length
    · have h1i : (16384 : Int) < (q.length : Int) := by omega
      go_wp2_with (go_at_call 7; refine (HI.out _).mono ?_; rintro e w4 ⟨rfl, hw4⟩; rw [hw4])
      go_ret
      exact ⟨rfl, HB3.out⟩
    · have h1i : ¬ (16384 : Int) < (q.length : Int) := by omega
      have HW3 := Lib.hid (HW.out w3 (by omega) (HZ.out (by omega)))
      go_wp2_with (go_at_call 7; refine (HI.out _).mono ?_; rintro e w4 ⟨rfl, hw4⟩; rw [hw4])
      refine HW3.out.mono ?_
      rintro e w5 ⟨v, L, rfl, hk, hcat, hn, hown, hb5⟩
      have HB5 := Lib.hid (HB3.out.trans (hb5.mono HB3.out.size))
      have HC := Lib.hid (constQ_any L v w3.heap.size w5 hown hk (by omega) (by rw [hcat]; omega))
      rw [hcat] at HC
      clear hk hcat hown hb5
      go_wp2_with fail
      refine HC.out.mono ?_
      rintro e w6 ⟨rfl, hb6⟩
      have HB6 := Lib.hid (HB5.out.trans (hb6.mono HB5.out.size))
      clear hb6
      go_wp2_with fail
      go_ret
      exact ⟨rfl, HB6.out⟩
end Go.Proofs.YtonejkomggpbbabGreatDoor
