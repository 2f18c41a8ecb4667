/- QuoteIsConst: the reference's Quote. -/
import Derived.Test.YtonejkomggpbbabGreatDoorQtQuo
namespace Go.Proofs.YtonejkomggpbbabGreatDoor
open Go.RowKit Go.Shelf

set_option maxHeartbeats 1600000 in
theorem rdigit_any (c : UInt8) (w : World) : Calls Tryz.prog 21 #[.int .u8 (c.toNat : Int)] w fun e w' => e = .returned (.bool (isD c)) ∧ w = w' := by
  have HC := Lib.hid ((isDB_u8 c).symm.trans (show isDB (c.toNat : Int) = decide (48 ≤ (c.toNat : Int) ∧ (c.toNat : Int) ≤ 57) from rfl))
  generalize isD c = r at *
  generalize (c.toNat : Int) = c at *
  by_cases h1 : 48 ≤ c
  · go_enter Tryz.func21, Tryz.ntmps21
    go_wp2
    go_ret
    exact ⟨ret_bool (by rw [HC.out, Bool.eq_iff_iff]; simp <;> omega), rfl⟩
  · go_enter Tryz.func21, Tryz.ntmps21
    go_wp2
    go_ret
    exact ⟨ret_bool (by rw [HC.out, Bool.eq_iff_iff]; simp <;> omega), rfl⟩
set_option maxHeartbeats 1600000 in
theorem rletter_any (c : UInt8) (w : World) : Calls Tryz.prog 20 #[.int .u8 (c.toNat : Int)] w fun e w' => e = .returned (.bool (isL c)) ∧ w = w' := by
  have HC := Lib.hid ((isLB_u8 c).symm.trans (show isLB (c.toNat : Int) = decide (97 ≤ (c.toNat : Int) ∧ (c.toNat : Int) ≤ 122 ∨ 65 ≤ (c.toNat : Int) ∧ (c.toNat : Int) ≤ 90 ∨ (c.toNat : Int) = 95) from rfl))
  generalize isL c = r at *
  generalize (c.toNat : Int) = c at *
  by_cases h5 : c = 95
  · have hb5 : (c == 95) = true := by simpa using h5
    go_enter Tryz.func20, Tryz.ntmps20
    go_wp2
    go_ret
    exact ⟨ret_bool (by rw [HC.out, Bool.eq_iff_iff]; simp <;> omega), rfl⟩
  · have hb5 : (c == 95) = false := by simpa using h5
    by_cases h1 : 97 ≤ c
    · by_cases h2 : c ≤ 122
      · go_enter Tryz.func20, Tryz.ntmps20
        go_wp2
        go_ret
        exact ⟨ret_bool (by rw [HC.out, Bool.eq_iff_iff]; simp <;> omega), rfl⟩
      · have h3 : 65 ≤ c := by omega
        have h4 : ¬ c ≤ 90 := by omega
        go_enter Tryz.func20, Tryz.ntmps20
        go_wp2
        go_ret
        exact ⟨ret_bool (by rw [HC.out, Bool.eq_iff_iff]; simp <;> omega), rfl⟩
    · by_cases h3 : 65 ≤ c
      · by_cases h4 : c ≤ 90
        · go_enter Tryz.func20, Tryz.ntmps20
          go_wp2
          go_ret
          exact ⟨ret_bool (by rw [HC.out, Bool.eq_iff_iff]; simp <;> omega), rfl⟩
        · go_enter Tryz.func20, Tryz.ntmps20
          go_wp2
          go_ret
          exact ⟨ret_bool (by rw [HC.out, Bool.eq_iff_iff]; simp <;> omega), rfl⟩
      · go_enter Tryz.func20, Tryz.ntmps20
        go_wp2
        go_ret
        exact ⟨ret_bool (by rw [HC.out, Bool.eq_iff_iff]; simp <;> omega), rfl⟩

theorem toB_inj {a b : List UInt8} (h : toB a = toB b) : a = b := by
  have := congrArg ByteArray.data h
  simpa [toB] using this
/-- whether a text is in a row -/
theorem rcont_any (g off c : Nat) (L : List (List UInt8)) (s : List UInt8) (w : World) (hL : TX w g off L) (hl : L.length ≤ 100) :
    Calls Tryz.prog 18 #[.slice (some ⟨g, off, none⟩) L.length c, .string (toB s)] w fun e w' => e = .returned (.bool (decide (s ∈ L))) ∧ w' = w := by
  refine (Tryz.slices_Contains_string g off L.length c (L.map toB) (toB s) w (by simp) (by omega) (fun j hj => ?_)).mono ?_
  · rw [List.length_map] at hj
    rw [hL j hj]
    simp [List.getD, hj]
  · rintro e w' ⟨rfl, rfl⟩
    refine ⟨?_, rfl⟩
    rw [show (L.map toB).take L.length = L.map toB from List.take_of_length_le (by simp)]
    rw [show Lib.containsS (L.map toB) (toB s) = decide (s ∈ L) from by
      rw [Bool.eq_iff_iff, Lib.containsS_iff]
      simp only [List.mem_map, decide_eq_true_eq]
      constructor
      · rintro ⟨a, ha, he⟩
        rwa [← toB_inj he]
      · intro h
        exact ⟨s, h, rfl⟩]


theorem plB_ref (c : UInt8) : plB c = (isL c || isD c || decide (0 ≤ Lib.indexByte [45, 46, 47, 44, 58, 43, 37, 64, 94] c)) :=
  all_u8 (P := fun c => plB c = (isL c || isD c || decide (0 ≤ Lib.indexByte [45, 46, 47, 44, 58, 43, 37, 64, 94] c))) (by decide +kernel) c
def resV : Array Value := (reservedQ.map fun s => Value.string (toB s)).toArray
set_option maxRecDepth 100000 in
set_option maxHeartbeats 1600000 in
theorem reservedWords_any (w : World) : Calls Tryz.prog 19 #[] w fun e w' => e = .returned (.slice (some ⟨w.heap.size, 0, none⟩) 15 15) ∧ w' = w.alloc (.cells resV 9) := by
  go_enter Tryz.func19, Tryz.ntmps19
  go_wp2_with fail
  go_ret
  exact ⟨rfl, rfl⟩
theorem res_tx (w : World) : TX (w.alloc (.cells resV 9)) w.heap.size 0 reservedQ := by
  intro j hj
  have hb := heap_alloc_new w (.cells resV 9)
  unfold World.cell?
  dsimp only
  rw [hb]
  have hj2 : j < 15 := hj
  match j, hj2 with
  | 0, _ | 1, _ | 2, _ | 3, _ | 4, _ | 5, _ | 6, _ | 7, _ | 8, _ | 9, _ | 10, _ | 11, _ | 12, _ | 13, _ | 14, _ => rfl
theorem ib_ref (c : UInt8) (w : World) : Calls Tryz.prog 7 #[.string ⟨#[45, 46, 47, 44, 58, 43, 37, 64, 94]⟩, .int .u8 (c.toNat : Int)] w fun e w' => e = .returned (.int .i64 (Lib.indexByte [45, 46, 47, 44, 58, 43, 37, 64, 94] c)) ∧ w' = w := by
  have h := Tryz.strings_IndexByte ⟨#[45, 46, 47, 44, 58, 43, 37, 64, 94]⟩ (c.toNat : Int) w
  rwa [show ((c.toNat : Int)).toNat.toUInt8 = c by simp] at h
set_option maxRecDepth 100000 in
set_option maxHeartbeats 3200000 in
theorem rquote_any (s : List UInt8) (hs : s.length ≤ 1048576) (w : World) (hm : ML w) :
    Calls Tryz.prog 6 #[.string (toB s)] w fun e w' => e = .returned (.string (toB (quo s))) ∧ Below w.heap.size w w' := by
  have hsz := toB_size s
  have HM := Lib.hid hm
  have he0 : (toB s).toList = [] ↔ s.isEmpty = true := by
    rw [show (toB s).toList = s by simp [toB, ByteArray.toList_eq]]
    cases s <;> simp
  have HW := Lib.hid (reservedWords_any w)
  have ba := (Below.refl w.heap.size w).alloc (Nat.le_refl _) (.cells resV 9)
  have HC := Lib.hid (rcont_any w.heap.size 0 15 reservedQ s (w.alloc (.cells resV 9)) (res_tx w) (by decide))
  have HBa := Lib.hid ba
  obtain ⟨Q, hQ⟩ : ∃ Q, (fun (e : Ending) (w' : World) => e = .returned (.string (toB (quo s))) ∧ Below w.heap.size w w') = Q := ⟨_, rfl⟩
  rw [hQ]
  have HQ := Lib.hid hQ
  have hquo : quo s = if bareQ s then s else 39 :: (esc s ++ [39]) := rfl
  have hb0 : bareQ s = ((!s.isEmpty && !decide (s ∈ reservedQ)) && s.all plB) := by
    unfold bareQ
    rw [show reservedQ.contains s = decide (s ∈ reservedQ) by rw [Bool.eq_iff_iff]; simp]
  have HU := Lib.hid hquo
  have HB0 := Lib.hid hb0
  clear hQ hm hquo hb0 ba
  generalize hbe : s.isEmpty = be at *
  have HE := Lib.hid hbe
  generalize hbr : decide (s ∈ reservedQ) = br at *
  clear hbr hbe
  go_enter Tryz.func6, Tryz.ntmps6
  go_upto_region 1 with fail
  go_cut [3] (fun s3 wx => s3 = .bool (!be && !br) ∧ Below w.heap.size w wx)
  case first =>
    cases be
    · have hz : ¬ (toB s).toList = [] := fun h => by have := he0.1 h; cases this
      go_wp2_with (first
        | (go_at_call 19; refine HW.out.mono ?_; rintro e w1 ⟨rfl, hw1⟩; rw [hw1])
        | (go_at_call 18; refine HC.out.mono ?_; rintro e w2 ⟨rfl, hw2⟩; rw [hw2]))
      go_meet
      exact ⟨by simp [hz], HBa.out⟩
    · have hz : (toB s).toList = [] := he0.2 rfl
      go_wp2_with fail
      go_meet
      exact ⟨rfl, Below.refl _ _⟩
  case rest =>
  obtain ⟨rfl, hbc⟩ := hcut
  have HBc := Lib.hid hbc
  clear hbc he0 HW HC HBa
  generalize hp0 : (!be && !br) = p0 at *
  clear hp0
  go_wp2_with fail
  go_loopw [3, 16] (fun s3 i wr => ∃ (k : Nat), i = .int .i64 (k : Int) ∧ k ≤ s.length ∧ s3 = .bool (p0 && (s.take k).all plB) ∧ Hid (Below w.heap.size w wr)) (fun _ i _ => s.length - (intOf i).toNat)
  case atStart => exact ⟨0, rfl, Nat.zero_le _, by simp, HBc⟩
  case round =>
    obtain ⟨k, rfl, hk, rfl, HB⟩ := hrel
    by_cases hlt : k < s.length
    · have hkz : k < (toB s).size := by omega
      have htk : (s.take (k + 1)).all plB = ((s.take k).all plB && plB ((toB s)[k]'hkz)) := by
        rw [List.take_succ_eq_append_getElem hlt, List.all_append]
        simp
        rfl
      have HT := Lib.hid (show (p0 && (s.take (k + 1)).all plB) = ((p0 && (s.take k).all plB) && plB ((toB s)[k]'hkz)) by rw [htk, Bool.and_assoc])
      have HPr := Lib.hid (plB_ref ((toB s)[k]'hkz))
      clear htk
      generalize hq : (p0 && (s.take k).all plB) = q at *
      clear hq
      have hlk : (k : Int) < (s.length : Int) := by omega
      cases q
      · go_wp2_with fail
        exact ⟨⟨k + 1, by go_num, by omega, by rw [HT.out]; rfl, HB⟩, by simp [intOf]; omega⟩
      · generalize hcc : (toB s)[k]'hkz = c at *
        have HL := Lib.hid (rletter_any c wr)
        have HD := Lib.hid (rdigit_any c wr)
        have HI := Lib.hid (ib_ref c wr)
        cases h1 : isL c
        · rw [h1] at HL HPr
          cases h2 : isD c
          · rw [h2] at HD HPr
            generalize hii : Lib.indexByte [45, 46, 47, 44, 58, 43, 37, 64, 94] c = ii at *
            clear hii h1 h2
            go_wp2_with (first
              | (go_at_call 20; refine HL.out.mono ?_; rintro e w1 ⟨rfl, rfl⟩)
              | (go_at_call 21; refine HD.out.mono ?_; rintro e w1 ⟨rfl, rfl⟩)
              | (go_at_call 7; refine HI.out.mono ?_; rintro e w1 ⟨rfl, hw1⟩; rw [hw1]))
            exact ⟨⟨k + 1, by go_num, by omega, by rw [HT.out, HPr.out]; simp, HB⟩, by simp [intOf]; omega⟩
          · rw [h2] at HD HPr
            clear h1 h2
            go_wp2_with (first
              | (go_at_call 20; refine HL.out.mono ?_; rintro e w1 ⟨rfl, rfl⟩)
              | (go_at_call 21; refine HD.out.mono ?_; rintro e w1 ⟨rfl, rfl⟩))
            exact ⟨⟨k + 1, by go_num, by omega, by rw [HT.out, HPr.out]; rfl, HB⟩, by simp [intOf]; omega⟩
        · rw [h1] at HL HPr
          clear h1
          go_wp2_with (first
            | (go_at_call 20; refine HL.out.mono ?_; rintro e w1 ⟨rfl, rfl⟩))
          exact ⟨⟨k + 1, by go_num, by omega, by rw [HT.out, HPr.out]; rfl, HB⟩, by simp [intOf]; omega⟩
    · obtain rfl : k = s.length := by omega
      have HF := Lib.hid (show bareQ s = (p0 && (s.take s.length).all plB) by rw [HB0.out, List.take_length])
      generalize hq : (p0 && (s.take s.length).all plB) = q at *
      clear hq
      have hel := esc_len s
      have hsz2 := toB_size (esc s)
      obtain ⟨m, hm⟩ := HM.out.below HB.out
      have hR := Tryz.strings_ReplaceAll (toB s) ⟨#[39]⟩ ⟨#[39, 92, 39, 39]⟩ m wr (by omega) hm (by decide) (by
        have h1 := Lib.countB_mul_le ⟨#[39]⟩ (by decide) (toB s).size (toB s) (Nat.le_refl _)
        have e1 : (⟨#[39]⟩ : ByteArray).size = 1 := rfl
        have e4 : (⟨#[39, 92, 39, 39]⟩ : ByteArray).size = 4 := rfl
        rw [e1] at h1
        rw [e4]
        omega)
      have he : Lib.replaceAll (toB s).data.toList (⟨#[39]⟩ : ByteArray).data.toList (⟨#[39, 92, 39, 39]⟩ : ByteArray).data.toList = esc s := replaceAll_esc s
      rw [he] at hR
      have HR := Lib.hid hR
      have HG := Lib.hid (show (⟨#[39]⟩ : ByteArray) ++ toB (esc s) ++ ⟨#[39]⟩ = toB (39 :: (esc s ++ [39])) by
        apply ByteArray.ext
        simp [toB])
      clear hR he hm
      cases q
      · go_wp2_with (go_at_call 22; refine HR.out.mono ?_; rintro e w1 ⟨rfl, hb1⟩)
        rw [← HQ.out, HU.out, HF.out]
        refine ⟨?_, HB.out.trans (hb1.mono HB.out.size)⟩
        show Ending.returned (.string (⟨#[39]⟩ ++ toB (esc s) ++ ⟨#[39]⟩)) = Ending.returned (.string (toB (39 :: (esc s ++ [39]))))
        rw [HG.out]
      · go_wp2_with fail
        rw [← HQ.out, HU.out, HF.out]
        exact ⟨rfl, HB.out⟩
end Go.Proofs.YtonejkomggpbbabGreatDoor
