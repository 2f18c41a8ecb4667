/- QuoteIsConst: the program's Quote. -/
import Derived.Test.YtonejkomggpbbabGreatDoorQtRune
import Derived.Test.YtonejkomggpbbabGreatDoorQtFunc
import Derived.Test.YtonejkomggpbbabGreatDoorQtRes
import Derived.Shelf.Strings.Replace
namespace Go.Proofs.YtonejkomggpbbabGreatDoor
open Go.RowKit Go.Shelf

set_option maxRecDepth 100000 in
set_option maxHeartbeats 1600000 in
theorem containsRune_high (r : Int) (h0 : 128 ≤ r) (hr1 : r ≤ 1114111) (w : World) :
    Calls Tryz.prog 14 #[.string sgs, .int .i32 r] w fun e w' => e = .returned (.bool false) ∧ Below w.heap.size w w' := by
  go_enter Tryz.func14, Tryz.ntmps14
  go_wp2_with (go_at_call 34; refine (sgs_any r h0 hr1 w).mono ?_; rintro e w1 ⟨rfl, hb1⟩)
  go_ret
  exact ⟨rfl, hb1⟩
theorem plB_sgs (c : UInt8) : plB c = (isL c || isD c || decide (0 ≤ Lib.indexByte sgs.data.toList c)) :=
  all_u8 (P := fun c => plB c = (isL c || isD c || decide (0 ≤ Lib.indexByte sgs.data.toList c))) (by decide +kernel) c
theorem low_back {x : Nat} (h : x < 128) : x.toUInt8.toNat = x := by
  simp only [Nat.toUInt8_eq, UInt8.toNat_ofNat']
  omega
set_option maxRecDepth 100000 in
set_option maxHeartbeats 3200000 in
theorem pred_any (x : Nat) (hx : x ≤ 1114111) (w : World) :
    Calls Tryz.prog 11 #[.int .i32 (x : Int)] w fun e w' => e = .returned (.bool (pN x)) ∧ Below w.heap.size w w' := by
  obtain ⟨Q, hQ⟩ : ∃ Q, (fun (e : Ending) (w' : World) => e = .returned (.bool (pN x)) ∧ Below w.heap.size w w') = Q := ⟨_, rfl⟩
  rw [hQ]
  have HQ := Lib.hid hQ
  have hw : IntKind.i64.wrap (x : Int) = (x : Int) := IntWalk.i64_in _ (by omega)
  have hL := Lib.hid (isLetter_any (x : Int) w)
  have hD := Lib.hid (isDigit_any (x : Int) w)
  clear hQ
  by_cases h1 : isLB (x : Int) = true
  · have hp : pN x = false := by
      have hlt : x < 128 := by simp [isLB] at h1; omega
      unfold pN
      have := isLB_u8 x.toUInt8
      rw [low_back hlt, h1] at this
      simp [hlt, plB, ← this]
    have HP := Lib.hid hp
    clear hp
    rw [h1] at hL
    go_enter Tryz.func11, Tryz.ntmps11
    go_wp2_with (go_at_call 12; refine hL.out.mono ?_; rintro e w1 ⟨rfl, rfl⟩)
    rw [← HQ.out, HP.out]
    exact ⟨rfl, Below.refl _ _⟩
  · have h1f : isLB (x : Int) = false := by simpa using h1
    rw [h1f] at hL
    by_cases h2 : isDB (x : Int) = true
    · have hp : pN x = false := by
        have hlt : x < 128 := by simp [isDB] at h2; omega
        unfold pN
        have := isDB_u8 x.toUInt8
        rw [low_back hlt, h2] at this
        simp [hlt, plB, ← this]
      have HP := Lib.hid hp
      clear hp
      rw [h2] at hD
      go_enter Tryz.func11, Tryz.ntmps11
      go_wp2_with (first
        | (go_at_call 12; refine hL.out.mono ?_; rintro e w1 ⟨rfl, rfl⟩)
        | (go_at_call 13; refine hD.out.mono ?_; rintro e w1 ⟨rfl, rfl⟩))
      rw [← HQ.out, HP.out]
      exact ⟨rfl, Below.refl _ _⟩
    · have h2f : isDB (x : Int) = false := by simpa using h2
      rw [h2f] at hD
      have hc : ∃ b, pN x = !b ∧ Calls Tryz.prog 14 #[.string sgs, .int .i32 (x : Int)] w fun e w' => e = .returned (.bool b) ∧ Below w.heap.size w w' := by
        by_cases hlt : x < 128
        · refine ⟨decide (0 ≤ Lib.indexByte sgs.data.toList x.toUInt8), ?_, ?_⟩
          · unfold pN
            have e1 := isLB_u8 x.toUInt8
            have e2 := isDB_u8 x.toUInt8
            rw [low_back hlt] at e1 e2
            rw [plB_sgs, ← e1, ← e2, h1f, h2f]
            simp [hlt]
          · refine (Tryz.strings_ContainsRune_ascii sgs (x : Int) w (by omega) (by omega)).mono ?_
            rintro e w' ⟨rfl, rfl⟩
            exact ⟨rfl, Below.refl _ _⟩
        · exact ⟨false, pN_high x (by omega), containsRune_high (x : Int) (by omega) (by omega) w⟩
      obtain ⟨b, hpb, hcr⟩ := hc
      have HP := Lib.hid hpb
      have HC := Lib.hid hcr
      clear hpb hcr h1 h2 h1f h2f
      go_enter Tryz.func11, Tryz.ntmps11
      go_wp2_with (first
        | (go_at_call 12; refine hL.out.mono ?_; rintro e w1 ⟨rfl, rfl⟩)
        | (go_at_call 13; refine hD.out.mono ?_; rintro e w1 ⟨rfl, rfl⟩)
        | (go_at_call 14; refine HC.out.mono ?_; rintro e w1 ⟨rfl, hb1⟩))
      rw [← HQ.out, HP.out]
      exact ⟨rfl, hb1⟩
/-- the number in internal/bytealg.MaxLen -/
def ML (w : World) : Prop := ∃ m, w.cell? ⟨0, 0, none⟩ = some (.int .i64 m)
theorem ML.below {w w' : World} (h : ML w) (hb : Below w.heap.size w w') : ML w' := by
  obtain ⟨m, hm⟩ := h
  exact ⟨m, (hb.cell (World.block_lt_of_cell? w _ hm)).trans hm⟩
theorem pred_grows (w : World) : PredGrows Tryz.prog 11 #[] pN w := fun W x hx _ => pred_any x hx W
set_option maxRecDepth 100000 in
set_option maxHeartbeats 1600000 in
theorem quoted_any (s : List UInt8) (hs : s.length ≤ 1048576) (w : World) (hm : ML w) :
    Calls Tryz.prog 17 #[.string (toB s)] w fun e w' => e = .returned (.string (toB (39 :: (esc s ++ [39])))) ∧ Below w.heap.size w w' := by
  have hsz := toB_size s
  obtain ⟨m, hm⟩ := hm
  have hR := Tryz.strings_ReplaceAll (toB s) ⟨#[39]⟩ ⟨#[39, 92, 39, 39]⟩ m w (by omega) hm (by decide) (by
    have h1 := Lib.countB_mul_le ⟨#[39]⟩ (by decide) (toB s).size (toB s) (Nat.le_refl _)
    have e1 : (⟨#[39]⟩ : ByteArray).size = 1 := rfl
    have e4 : (⟨#[39, 92, 39, 39]⟩ : ByteArray).size = 4 := rfl
    rw [e1] at h1
    rw [e4]
    omega)
  have he : Lib.replaceAll (toB s).data.toList (⟨#[39]⟩ : ByteArray).data.toList (⟨#[39, 92, 39, 39]⟩ : ByteArray).data.toList = esc s := replaceAll_esc s
  rw [he] at hR
  have hel := esc_len s
  have hsz2 := toB_size (esc s)
  have HR := Lib.hid hR
  have HF := Lib.hid (show (⟨#[39]⟩ : ByteArray) ++ toB (esc s) ++ ⟨#[39]⟩ = toB (39 :: (esc s ++ [39])) by
    apply ByteArray.ext
    simp [toB])
  clear hR he
  go_enter Tryz.func17, Tryz.ntmps17
  go_wp2_with (go_at_call 22; refine HR.out.mono ?_; rintro e w1 ⟨rfl, hb1⟩)
  go_ret
  exact ⟨by rw [← HF.out]; rfl, hb1⟩
set_option maxRecDepth 100000 in
set_option maxHeartbeats 1600000 in
theorem quote_any (s : List UInt8) (hs : s.length ≤ 1048576) (w : World) (hm : ML w) :
    Calls Tryz.prog 5 #[.string (toB s)] w fun e w' => e = .returned (.string (toB (quo s))) ∧ Below w.heap.size w w' := by
  have hCF := Tryz.strings_ContainsFunc_grows 11 #[] (fun _ _ => rfl) pN (toB s) w (pred_grows w)
  rw [idxFunc_plain, show (toB s).data.toList = s from rfl] at hCF
  have HCF := Lib.hid hCF
  have HM := Lib.hid (fun W (hb : Below w.heap.size w W) => quoted_any s hs W (hm.below hb))
  have he0 : ((toB s).toList == ([] : List UInt8)) = s.isEmpty := by
    rw [lit_eq s [] _ rfl]
    cases s <;> simp
  have HR := Lib.hid (isReserved_any s)
  obtain ⟨Q, hQ⟩ : ∃ Q, (fun (e : Ending) (w' : World) => e = .returned (.string (toB (quo s))) ∧ Below w.heap.size w w') = Q := ⟨_, rfl⟩
  rw [hQ]
  have HQ := Lib.hid hQ
  have hquo : quo s = if bareQ s then s else 39 :: (esc s ++ [39]) := rfl
  unfold bareQ at hquo
  have HU := Lib.hid hquo
  clear hCF hQ hm hquo
  generalize s.isEmpty = be at *
  generalize hba : s.all plB = ba at *
  generalize hbr : reservedQ.contains s = br at *
  clear hba hbr
  cases be <;> cases ba <;> cases br
  all_goals
    go_enter Tryz.func5, Tryz.ntmps5
    go_wp2_with (first
      | (go_at_call 15; refine HCF.out.mono ?_; rintro e w1 ⟨rfl, hb1⟩)
      | (go_at_call 16; refine (HR.out _).mono ?_; rintro e w2 ⟨rfl, hw2⟩; rw [hw2])
      | (go_at_call 17; (first | refine (HM.out _ hb1).mono ?_ | refine (HM.out _ (Below.refl _ _)).mono ?_); rintro e w3 ⟨rfl, hb3⟩))
    rw [← HQ.out, HU.out]
    first
      | exact ⟨rfl, hb1.trans (hb3.mono hb1.size)⟩
      | exact ⟨rfl, hb3⟩
      | exact ⟨rfl, hb1⟩
end Go.Proofs.YtonejkomggpbbabGreatDoor
