/- Times, the reference: ParseTimes, the walk. -/
import Derived.Test.YtlhaidibcocooaaGreatDoorTimesS
namespace Go.Proofs.YtlhaidibcocooaaGreatDoor
open Go.RowKit Go.Shelf

theorem row_cells {w : World} {B A n : Nat} {T : TypeId} {L : List Value} (h : w.ownsRow B T 1 (.slice (some ⟨A, 0, none⟩) n n) n L) (_hn : 0 < n) : A < w.heap.size ∧ ∀ k (hk : k < L.length), w.cell? ⟨A, k, none⟩ = some L[k] := by
  rcases h.2 with ⟨hn0, _⟩ | ⟨g, cap, cur, he, h1, h2, h3, h4, h5, h6⟩
  · cases hn0
  · injection he with e1 e2 e3
    injection e1 with e1
    injection e1 with e1
    subst e1
    refine ⟨(Array.getElem?_eq_some_iff.1 h2).1, fun k hk => ?_⟩
    have hc : w.cell? ⟨A, k, none⟩ = cur[k]? := by simp [World.cell?, h2]
    subst h6
    rw [hc]
    simp
theorem PS.start {w w2 w3 w5 : World} {A g g1 g2 : Nat} {P : Nat → List UInt8} (hb2 : Below (w.alloc (.cells zeroT 24)).heap.size (w.alloc (.cells zeroT 24)) w2) (hb3 : Below w2.heap.size w2 w3) (hb5 : Below (w3.alloc (.cells (arrS fun _ => 0) 71)).heap.size (w3.alloc (.cells (arrS fun _ => 0) 71)) w5)
    (hA : A < w2.heap.size) (hrow : ∀ k, k < 5 → w2.cell? ⟨A, k, none⟩ = some (.string (toB (P k)))) (ht : TF w5 g g1 g2) (hg : w3.heap.size + 1 ≤ g) (hg1 : w3.heap.size + 1 ≤ g1) (hg2 : w3.heap.size + 1 ≤ g2) : PS w w5 w3.heap.size A g g1 g2 P (fun _ => 0) := by
  have b1 := (Below.refl w.heap.size w).alloc (Nat.le_refl _) (.cells zeroT 24)
  have s1 : (w.alloc (.cells zeroT 24)).heap.size = w.heap.size + 1 := by simp
  have b4 := (Below.refl w3.heap.size w3).alloc (Nat.le_refl _) (.cells (arrS fun _ => 0) 71)
  have s2 := hb2.size
  have s3 := hb3.size
  have s4 := b4.size
  have s5 := hb5.size
  have b35 : Below w3.heap.size w3 w5 := b4.trans (hb5.mono s4)
  have b25 : Below w2.heap.size w2 w5 := hb3.trans (b35.mono s3)
  have b15 : Below (w.alloc (.cells zeroT 24)).heap.size (w.alloc (.cells zeroT 24)) w5 := hb2.trans (b25.mono s2)
  refine ⟨b1.trans (b15.mono b1.size), (b15.block _ (by omega)).trans (heap_alloc_new w _), (hb5.block _ (by simp)).trans (heap_alloc_new w3 _), fun k hk => (b25.cell (p := ⟨A, k, none⟩) hA).trans (hrow k hk), ht, ⟨by omega, by omega, by omega, by omega, by omega, by omega⟩⟩

theorem five_len (P : Nat → List UInt8) (k : Nat) (hk : k < 5) : (P k).length ≤ (five P).length := by
  rw [five_text]
  have hh : k = 0 ∨ k = 1 ∨ k = 2 ∨ k = 3 ∨ k = 4 := by omega
  rcases hh with rfl | rfl | rfl | rfl | rfl <;> simp <;> omega
theorem cutP_len (x : List UInt8) : (cutP x).length = Lib.countB (toB x) ⟨#[44]⟩ + 1 := Lib.splitB_all ⟨#[44]⟩ (by decide) 0 _ _ rfl
theorem cutP_small (x : List UInt8) (h : x.length ≤ 4096) : 1 ≤ (cutP x).length ∧ (cutP x).length ≤ 4097 := by
  have h1 := cutP_len x
  have h2 := Lib.countB_le ⟨#[44]⟩ (by decide) _ (toB x) (Nat.le_refl _)
  have h3 := toB_size x
  omega
theorem split_any (x : List UInt8) (W : World) (h : x.length ≤ 4096) (hm : MaxLenAt W) : Calls Tryz.prog 29 #[.string (toB x), .string ⟨#[44]⟩] W fun e w' =>
    e = .returned (.slice (some ⟨W.heap.size, 0, none⟩) (cutP x).length (cutP x).length) ∧ w' = W.alloc (.cells ((cutP x).map Value.string).toArray 9) := by
  obtain ⟨m, hm⟩ := hm
  refine (Tryz.strings_Split (toB x) ⟨#[44]⟩ m W (by rw [toB_size]; omega) hm (by decide)).mono ?_
  rintro e w' ⟨rfl, rfl⟩
  rw [cutP_len]
  exact ⟨rfl, rfl⟩
theorem forms_at (g1 g2 i : Nat) (hi : i < 5) : (∃ lo : Int, lowV i = .int .i64 lo) ∧ (∃ hi : Int, topV i = .int .i64 hi) ∧ ∃ a n c, nmV g1 g2 i = .slice a n c := by
  have hh : i = 0 ∨ i = 1 ∨ i = 2 ∨ i = 3 ∨ i = 4 := by omega
  rcases hh with rfl | rfl | rfl | rfl | rfl <;> exact ⟨⟨_, rfl⟩, ⟨_, rfl⟩, ⟨_, _, _, rfl⟩⟩

theorem QS.start {wr : World} {b5 : Nat} {cs : Array Value} {L : List ByteArray} {U : TypeId} (h : b5 < wr.heap.size) : QS ((wr.alloc (.cells cs 75)).alloc (.cells (L.map Value.string).toArray U)) b5 wr.heap.size (wr.heap.size + 1) cs L ∧ Below wr.heap.size wr ((wr.alloc (.cells cs 75)).alloc (.cells (L.map Value.string).toArray U)) := by
  have b1 := (Below.refl wr.heap.size wr).alloc (Nat.le_refl _) (.cells cs 75)
  have b2 := (Below.refl _ (wr.alloc (.cells cs 75))).alloc (Nat.le_refl _) (.cells (L.map Value.string).toArray U)
  have s1 : (wr.alloc (.cells cs 75)).heap.size = wr.heap.size + 1 := by simp
  refine ⟨⟨(b2.block _ (by omega)).trans (heap_alloc_new wr _), fun k hk => ?_, ⟨by omega, by omega, by simp⟩⟩, b1.trans (b2.mono b1.size)⟩
  have := box_cell (wr.alloc (.cells cs 75)) (L.map Value.string).toArray U k
  rw [s1] at this
  rw [this]
  simp [hk]
theorem put_put (st : Nat → Nat) (i a b : Nat) : putN (putN st i a) i b = putN st i b := by
  funext k
  unfold putN
  split <;> rfl
theorem put_same (st : Nat → Nat) (i a : Nat) (h : st i = a) : putN st i a = st := by
  funext k
  unfold putN
  split
  · rename_i e; rw [e, h]
  · rfl

theorem star_at (x : List UInt8) (h : 0 < (toB x).size) : ((((toB x)[0]'h).toNat : Int) == 42) = star0 x := by
  cases x with
  | nil => simp [toB_size] at h
  | cons b t =>
    show ((b.toNat : Int) == 42) = (b.toNat == 42)
    rw [Bool.eq_iff_iff, beq_iff_eq, beq_iff_eq]
    omega
theorem heads {P : Nat → List UInt8} (h : ∀ k, k < 5 → okField (P k)) : 0 < (toB (P 2)).size ∧ 0 < (toB (P 4)).size := by
  rw [toB_size, toB_size]
  exact ⟨List.length_pos_iff.2 (h 2 (by decide)).1, List.length_pos_iff.2 (h 4 (by decide)).1⟩

set_option maxRecDepth 100000 in
set_option maxHeartbeats 4000000 in
theorem parse_any (I : Nat → Nat → Nat → Prop) (Er : Prop) (P : Nat → List UInt8) (w : World) (hI0 : ∀ k, k < 5 → I k 0 0) (hP : ∀ k, k < 5 → okField (P k)) (hs : (five P).length ≤ 4096) (hm : MaxLenAt w) (hpart : PartGives I Er P) :
    Calls Tryz.prog 10 #[.string (toB (five P))] w (ParseGives I Er P w) := by
  have HT := Lib.hid (fun W => trim_five P hP hs W)
  have hB : ∀ W, Calls Tryz.prog 26 #[.string (toB (five P))] W fun e w' => ∃ A, e = .returned (.slice (some ⟨A, 0, none⟩) 5 5) ∧ W.heap.size ≤ A ∧ A < w'.heap.size ∧ (∀ k, k < 5 → w'.cell? ⟨A, k, none⟩ = some (.string (toB (P k)))) ∧ Below W.heap.size W w' := fun W => by
    refine (blanks_any (toB (five P)) W (by rw [toB_size]; omega)).mono ?_
    rw [five_fields P hP]
    rintro e w' ⟨A, rfl, hA, ho, hb⟩
    obtain ⟨h1, h2⟩ := row_cells ho (by simp)
    refine ⟨A, rfl, hA, h1, fun k hk => ?_, hb⟩
    have hh : k = 0 ∨ k = 1 ∨ k = 2 ∨ k = 3 ∨ k = 4 := by omega
    rcases hh with rfl | rfl | rfl | rfl | rfl <;> exact h2 _ (by simp)
  have HB := Lib.hid hB
  have hsz : (toB (five P)).size ≤ 4096 := by rw [toB_size]; exact hs
  have hPl : ∀ k, k < 5 → (P k).length ≤ 4096 := fun k hk => by
    have := five_len P k hk
    omega
  have HP := Lib.hid hP
  have HPl := Lib.hid hPl
  have HI := Lib.hid hI0
  have HM := Lib.hid hm
  have HPt := Lib.hid hpart
  obtain ⟨Q, hQ⟩ : ∃ Q, ParseGives I Er P w = Q := ⟨_, rfl⟩
  rw [hQ]
  have HQ := Lib.hid hQ
  generalize toB (five P) = T at *
  clear hB hP hs hI0 hm hpart hQ hPl
  go_enter Tryz.func10, Tryz.ntmps10
  go_wp2_with fail
  refine (HB.out _).mono ?_
  rintro e w2 ⟨A, rfl, hA, hA2, hrow, hb2⟩
  have HA := Lib.hid hA2
  have HR := Lib.hid hrow
  have HB2 := Lib.hid hb2
  clear hA hA2 hrow hb2
  go_wp2_with fail
  refine (HT.out _).mono ?_
  rintro e w3 ⟨rfl, hb3⟩
  have HB3 := Lib.hid hb3
  clear hb3
  go_wp2_with fail
  refine (tFields_any _).mono ?_
  rintro e w5 ⟨g, g1, g2, rfl, ht, hb5, hg, hg1, hg2⟩
  have HS := Lib.hid (PS.start (P := P) HB2.out HB3.out hb5 HA.out HR.out ht (by simpa using hg) (by simpa using hg1) (by simpa using hg2))
  clear ht hb5 hg hg1 hg2 HB2 HB3 HA HR HT HB
  clear hsz
  generalize w3.heap.size = b5 at *
  go_wp2_with fail
  go_loopw [30] (fun s30 wr => ∃ (i : Nat) (st : Nat → Nat), s30 = .int .i64 (i : Int) ∧ i ≤ 5 ∧ Hid (∀ k, k < i → I k (cutP (P k)).length (st k)) ∧ Hid (∀ k, st k < 18446744073709551616) ∧ Hid (∀ k, i ≤ k → st k = 0) ∧ Hid (PS w wr b5 A g g1 g2 P st)) (fun s30 _ => 5 - (intOf s30).toNat)
  case atStart => exact ⟨0, fun _ => 0, rfl, by decide, fun k hk => absurd hk (Nat.not_lt_zero _), fun _ => (by decide : (0 : Nat) < 18446744073709551616), fun _ _ => rfl, HS⟩
  case round =>
    clear HS
    obtain ⟨i, st, rfl, hi5, HI1, HSt, HZ, HS⟩ := hrel
    by_cases hlt : i < 5
    · have hti := tf_at g1 g2 i hlt
      have c0 := (HS.out.tf.cells (i * 3)).trans hti.1
      have c1 := (HS.out.tf.cells (i * 3 + 1)).trans hti.2.1
      have c2 := (HS.out.tf.cells (i * 3 + 2)).trans hti.2.2
      have cr := HS.out.row i hlt
      have lA := HS.out.ne.2.2.2.2.2
      obtain ⟨⟨lo, hlo⟩, ⟨hi, hhi⟩, ⟨na, nn, nc, hnm⟩⟩ := forms_at g1 g2 i hlt
      have HLO := Lib.hid hlo
      have HHI := Lib.hid hhi
      have HNM := Lib.hid hnm
      rw [hlo] at c0
      rw [hhi] at c1
      rw [hnm] at c2
      clear hlo hhi hnm hti
      go_wp2_with fail
      have HQ1 := Lib.hid (QS.start (wr := wr) (b5 := b5) (cs := #[.int .i64 lo, .int .i64 hi, .slice na nn nc]) (L := cutP (P i)) (U := 9) (Array.getElem?_eq_some_iff.1 HS.out.sets).1)
      refine (split_any (P i) _ (HPl.out i hlt) (HM.out.keep (HS.out.below.trans (((Below.refl wr.heap.size wr).alloc (Nat.le_refl _) _).mono HS.out.below.size)))).mono ?_
      rintro e w6 ⟨rfl, hw6⟩
      have HS6 : Hid (PS w w6 b5 A g g1 g2 P (putN st i 0)) := Lib.hid (by
        rw [put_same st i 0 (HZ.out i (Nat.le_refl _)), hw6]
        exact HS.out.keep HQ1.out.2)
      have HQ6 : Hid (QS w6 b5 wr.heap.size (wr.heap.size + 1) #[.int .i64 lo, .int .i64 hi, .slice na nn nc] (cutP (P i))) := Lib.hid (by rw [hw6]; exact HQ1.out.1)
      have HLn := Lib.hid (cutP_small (P i) (HPl.out i hlt))
      clear hw6 HQ1 c0 c1 c2 cr lA HS
      have hz6 : ∀ o, (wr.alloc o).heap.size = wr.heap.size + 1 := fun o => by simp
      rw [hz6]
      clear hz6
      generalize wr.heap.size + 1 = A7 at *
      generalize wr.heap.size = b7 at *
      obtain ⟨n, hn⟩ : ∃ n, (cutP (P i)).length = n := ⟨_, rfl⟩
      have HN := Lib.hid hn
      have hln : 1 ≤ n ∧ n ≤ 4097 := by have := HLn.out; rw [hn] at this; exact this
      rw [hn]
      clear hn HLn
      go_wp2_with fail
      go_loopw [41] (fun s41 wx => ∃ (j acc : Nat), s41 = .int .i64 (j : Int) ∧ j ≤ n ∧ Hid (I i j acc) ∧ Hid (acc < 18446744073709551616) ∧ Hid (PS w wx b5 A g g1 g2 P (putN st i acc)) ∧ Hid (QS wx b5 b7 A7 #[.int .i64 lo, .int .i64 hi, .slice na nn nc] (cutP (P i)))) (fun s41 _ => n - (intOf s41).toNat)
      case atStart => exact ⟨0, 0, rfl, Nat.zero_le _, HI.out i hlt, (by decide : (0 : Nat) < 18446744073709551616), HS6, HQ6⟩
      case round =>
        clear HS6 HQ6
        obtain ⟨j, acc, rfl, hjn, HA, HAl, HS, HQs⟩ := hrel
        by_cases hj : j < n
        · have hj2 : j < (cutP (P i)).length := by rw [HN.out]; exact hj
          have cj := HQs.out.row j hj2
          have hc0 := HPt.out _ g1 g2 i j acc (cutP (P i))[j] hlt (List.getElem?_eq_getElem hj2) HA.out (nm_at HS.out.tf i hlt) (HM.out.keep HS.out.below)
          rw [HLO.out, HHI.out, HNM.out] at hc0
          have HC := Lib.hid hc0
          clear hc0
          obtain ⟨sj, hsj⟩ : ∃ sj, (cutP (P i))[j] = sj := ⟨_, rfl⟩
          rw [hsj] at cj HC
          have d0 : ∀ k, wr.cell? ⟨b7, k, none⟩ = (#[.int .i64 lo, .int .i64 hi, .slice na nn nc] : Array Value)[k]? := fun k => by simp [World.cell?, HQs.out.box]
          clear hsj hj2
          go_wp2_with fail
          refine HC.out.mono ?_
          rintro e w8 ⟨b, er, rfl, hbl, hI8, hE8, hb8⟩
          have HS8 := Lib.hid (HS.out.keep hb8)
          have HQ8 := Lib.hid (HQs.out.keep hb8)
          have HI8 := Lib.hid hI8
          have HE8 := Lib.hid hE8
          have HBl := Lib.hid hbl
          clear hI8 hE8 hb8 hbl HC d0 cj HS HQs
          by_cases her : er = 0
          · subst her
            have hi1 := HI8.out rfl
            have HI9 := Lib.hid hi1
            have c5 : w8.cell? ⟨b5, i, none⟩ = some (.int .u64 (acc : Int)) := by
              have := arr_at (putN st i acc) i hlt
              rw [show putN st i acc i = acc from if_pos rfl] at this
              rw [← this]
              simp [World.cell?, HS8.out.sets]
            have z5 : w8.frozen? ⟨b5, i, none⟩ = false := by simp [World.frozen?, HS8.out.sets]
            have hor := u64_or_nat acc b HAl.out HBl.out
            have hol : acc ||| b < 18446744073709551616 := Nat.or_lt_two_pow (n := 64) HAl.out HBl.out
            have HOl := Lib.hid hol
            have hs9 := HS8.out.store i (acc ||| b) hlt
            rw [put_put] at hs9
            have HS9 := Lib.hid hs9
            have HQ9 := Lib.hid (HQ8.out.store i (.int .u64 ((acc ||| b : Nat) : Int)))
            clear hi1 hol hs9 HI8 HE8 HS8 HQ8 HA HAl HBl
            go_wp2_with fail
            go_roundw
            case rel => exact ⟨j + 1, acc ||| b, by go_num, by omega, HI9, HOl, HS9, HQ9⟩
            case measure => simp [intOf]; omega
          · have hne : ((er : Int) == 0) = false := by rw [beq_eq_false_iff_ne]; omega
            have cz : ∀ k, w8.cell? ⟨w.heap.size, k, none⟩ = zeroT[k]? := fun k => by simp [World.cell?, HS8.out.res]
            have zz : ∀ k, w8.frozen? ⟨w.heap.size, k, none⟩ = false := fun k => by simp [World.frozen?, HS8.out.res]
            have lz : w.heap.size < w8.heap.size := (Array.getElem?_eq_some_iff.1 HS8.out.res).1
            unfold zeroT at cz
            have HE := Lib.hid (HE8.out her)
            have hb9 : ∀ a0 a1 a2 a3 a4 a5 a6, Below w.heap.size w (((((((w8.setCell ⟨w.heap.size, 0, none⟩ a0).setCell ⟨w.heap.size, 1, none⟩ a1).setCell ⟨w.heap.size, 2, none⟩ a2).setCell ⟨w.heap.size, 3, none⟩ a3).setCell ⟨w.heap.size, 4, none⟩ a4).setCell ⟨w.heap.size, 5, none⟩ a5).setCell ⟨w.heap.size, 6, none⟩ a6) := fun a0 a1 a2 a3 a4 a5 a6 =>
              ((((((HS8.out.below.setCell (Nat.le_refl _) _).setCell (Nat.le_refl _) _).setCell (Nat.le_refl _) _).setCell (Nat.le_refl _) _).setCell (Nat.le_refl _) _).setCell (Nat.le_refl _) _).setCell (Nat.le_refl _) _
            have HB9 := Lib.hid hb9
            clear hb9 HI8 HE8 HA HAl HBl
            go_wp2_with fail
            rw [← HQ.out]
            refine bodyPost_ret (v := .tuple #[.agg zeroT, .int .i64 (er : Int)]) (by simp [results, Tryz.results10, go_sem, zeroT, cz]) rfl ⟨.inr ⟨HE.out, er, her, rfl⟩, HB9.out _ _ _ _ _ _ _⟩
        · have hjn2 : j = n := by omega
          subst hjn2
          clear hj
          have HI1b : Hid (∀ k, k < i + 1 → I k (cutP (P k)).length (putN st i acc k)) := Lib.hid (fun k hk => by
            by_cases hki : k = i
            · subst hki
              rw [show putN st k acc k = acc from if_pos rfl, HN.out]
              exact HA.out
            · rw [show putN st i acc k = st k from if_neg hki]
              exact HI1.out k (by omega))
          have HStb : Hid (∀ k, putN st i acc k < 18446744073709551616) := Lib.hid (fun k => by
            unfold putN
            split
            · exact HAl.out
            · exact HSt.out k)
          have HZb : Hid (∀ k, i + 1 ≤ k → putN st i acc k = 0) := Lib.hid (fun k hk => by
            rw [show putN st i acc k = st k from if_neg (by omega)]
            exact HZ.out k (by omega))
          go_wp2_with fail
          exact ⟨⟨i + 1, putN st i acc, by go_num, by omega, HI1b, HStb, HZb, HS⟩, by simp [intOf]; omega⟩
    · have hi6 : i = 5 := by omega
      subst hi6
      cases hb7 : (st 4).testBit 7 with
      | true =>
        have c4 : wr.cell? ⟨b5, 4, none⟩ = some (.int .u64 (st 4 : Int)) := by
          rw [← arr_at st 4 (by decide)]
          simp [World.cell?, HS.out.sets]
        have z4 : wr.frozen? ⟨b5, 4, none⟩ = false := by simp [World.frozen?, HS.out.sets]
        have hbit := bit_yes (HSt.out 4) hb7
        rw [show ((2 : Int) ^ 7) = 128 from by decide] at hbit
        have h127 : bits .and .u64 (st 4 : Int) 127 = ((st 4 &&& 127 : Nat) : Int) := u64_and_nat (st 4) 127 (HSt.out 4) (by decide)
        have ho1 : bits .or .u64 ((st 4 &&& 127 : Nat) : Int) 1 = ((st 4 &&& 127 ||| 1 : Nat) : Int) := u64_or_nat (st 4 &&& 127) 1 (Nat.lt_of_le_of_lt Nat.and_le_left (HSt.out 4)) (by decide)
        have hf : st 4 &&& 127 ||| 1 = foldW true (st 4) := by unfold foldW; rw [if_pos ⟨rfl, hb7⟩]
        have HS2 := Lib.hid (HS.out.store 4 (st 4 &&& 127 ||| 1) (by decide))
        have HF := Lib.hid (show putN st 4 (st 4 &&& 127 ||| 1) 4 = foldW true (st 4) from hf)
        have HF0 := Lib.hid (show ∀ k, k < 4 → putN st 4 (st 4 &&& 127 ||| 1) k = st k from fun k hk => if_neg (by omega))
        clear hf HS
        generalize hst2 : putN st 4 (st 4 &&& 127 ||| 1) = st2 at *
        clear hst2
        generalize st 4 &&& 127 = a127 at *
        go_upto_region 21 with fail
        generalize wr.setCell ⟨b5, 4, none⟩ (.int .u64 ((a127 ||| 1 : Nat) : Int)) = wx at *
        clear c4 z4 hbit h127 ho1
        have cs : ∀ k, wx.cell? ⟨b5, k, none⟩ = (arrS st2)[k]? := fun k => by simp [World.cell?, HS2.out.sets]
        unfold arrS at cs
        have r2 := HS2.out.row 2 (by decide)
        have r4 := HS2.out.row 4 (by decide)
        have cz : ∀ k, wx.cell? ⟨w.heap.size, k, none⟩ = zeroT[k]? := fun k => by simp [World.cell?, HS2.out.res]
        have zz : ∀ k, wx.frozen? ⟨w.heap.size, k, none⟩ = false := fun k => by simp [World.frozen?, HS2.out.res]
        have lz : w.heap.size < wx.heap.size := (Array.getElem?_eq_some_iff.1 HS2.out.res).1
        unfold zeroT at cz
        obtain ⟨hx2, hx4⟩ := heads HP.out
        have he2 := star_at (P 2) hx2
        have he4 := star_at (P 4) hx4
        obtain ⟨q2, hq2⟩ : ∃ q2, star0 (P 2) = q2 := ⟨_, rfl⟩
        obtain ⟨q4, hq4⟩ : ∃ q4, star0 (P 4) = q4 := ⟨_, rfl⟩
        rw [hq2] at he2
        rw [hq4] at he4
        have HQ2 := Lib.hid hq2
        have HQ4 := Lib.hid hq4
        clear hq2 hq4
        have hb9 : ∀ a0 a1 a2 a3 a4 a5 a6, Below w.heap.size w (((((((wx.setCell ⟨w.heap.size, 0, none⟩ a0).setCell ⟨w.heap.size, 1, none⟩ a1).setCell ⟨w.heap.size, 2, none⟩ a2).setCell ⟨w.heap.size, 3, none⟩ a3).setCell ⟨w.heap.size, 4, none⟩ a4).setCell ⟨w.heap.size, 5, none⟩ a5).setCell ⟨w.heap.size, 6, none⟩ a6) := fun a0 a1 a2 a3 a4 a5 a6 =>
          ((((((HS2.out.below.setCell (Nat.le_refl _) _).setCell (Nat.le_refl _) _).setCell (Nat.le_refl _) _).setCell (Nat.le_refl _) _).setCell (Nat.le_refl _) _).setCell (Nat.le_refl _) _).setCell (Nat.le_refl _) _
        have HB9 := Lib.hid hb9
        clear hb9
        generalize toB (P 2) = t2 at *
        generalize toB (P 4) = t4 at *
        go_still_tail 21, (by kernel_rfl)
        go_wp2_with fail
        rw [← HQ.out]
        refine bodyPost_ret (v := .tuple #[.agg #[.int .u64 (st2 0 : Int), .int .u64 (st2 1 : Int), .int .u64 (st2 2 : Int), .int .u64 (st2 3 : Int), .int .u64 (st2 4 : Int), .bool q2, .bool q4], .int .i64 0]) (by simp [results, Tryz.results10, go_sem, cz]) rfl ⟨.inl ⟨st, fun k hk => ⟨HI1.out k hk, HSt.out k⟩, ?_⟩, (HB9.out _ _ _ _ _ _ _).drew⟩
        rw [HF.out, HF0.out 0 (by decide), HF0.out 1 (by decide), HF0.out 2 (by decide), HF0.out 3 (by decide), HQ2.out, HQ4.out]
      | false =>
        have c4 : wr.cell? ⟨b5, 4, none⟩ = some (.int .u64 (st 4 : Int)) := by
          rw [← arr_at st 4 (by decide)]
          simp [World.cell?, HS.out.sets]
        have hbit := bit_no (HSt.out 4) hb7
        rw [show ((2 : Int) ^ 7) = 128 from by decide] at hbit
        have hf : st 4 = foldW true (st 4) := by unfold foldW; rw [if_neg (fun h => by rw [hb7] at h; exact absurd h.2 (by decide))]
        have HFa := Lib.hid hf
        clear hf
        go_upto_region 21 with fail
        clear c4 hbit
        obtain ⟨st2, hst2⟩ : ∃ st2, st = st2 := ⟨_, rfl⟩
        have HF : Hid (st2 4 = foldW true (st 4)) := Lib.hid (by rw [← hst2]; exact HFa.out)
        have HF0 : Hid (∀ k, k < 4 → st2 k = st k) := Lib.hid (fun k _ => by rw [← hst2])
        have HS2 : Hid (PS w wr b5 A g g1 g2 P st2) := Lib.hid (by rw [← hst2]; exact HS.out)
        clear hst2 HFa HS
        obtain ⟨wx, hwx⟩ : ∃ wx, wx = wr := ⟨_, rfl⟩
        subst hwx
        have cs : ∀ k, wx.cell? ⟨b5, k, none⟩ = (arrS st2)[k]? := fun k => by simp [World.cell?, HS2.out.sets]
        unfold arrS at cs
        have r2 := HS2.out.row 2 (by decide)
        have r4 := HS2.out.row 4 (by decide)
        have cz : ∀ k, wx.cell? ⟨w.heap.size, k, none⟩ = zeroT[k]? := fun k => by simp [World.cell?, HS2.out.res]
        have zz : ∀ k, wx.frozen? ⟨w.heap.size, k, none⟩ = false := fun k => by simp [World.frozen?, HS2.out.res]
        have lz : w.heap.size < wx.heap.size := (Array.getElem?_eq_some_iff.1 HS2.out.res).1
        unfold zeroT at cz
        obtain ⟨hx2, hx4⟩ := heads HP.out
        have he2 := star_at (P 2) hx2
        have he4 := star_at (P 4) hx4
        obtain ⟨q2, hq2⟩ : ∃ q2, star0 (P 2) = q2 := ⟨_, rfl⟩
        obtain ⟨q4, hq4⟩ : ∃ q4, star0 (P 4) = q4 := ⟨_, rfl⟩
        rw [hq2] at he2
        rw [hq4] at he4
        have HQ2 := Lib.hid hq2
        have HQ4 := Lib.hid hq4
        clear hq2 hq4
        have hb9 : ∀ a0 a1 a2 a3 a4 a5 a6, Below w.heap.size w (((((((wx.setCell ⟨w.heap.size, 0, none⟩ a0).setCell ⟨w.heap.size, 1, none⟩ a1).setCell ⟨w.heap.size, 2, none⟩ a2).setCell ⟨w.heap.size, 3, none⟩ a3).setCell ⟨w.heap.size, 4, none⟩ a4).setCell ⟨w.heap.size, 5, none⟩ a5).setCell ⟨w.heap.size, 6, none⟩ a6) := fun a0 a1 a2 a3 a4 a5 a6 =>
          ((((((HS2.out.below.setCell (Nat.le_refl _) _).setCell (Nat.le_refl _) _).setCell (Nat.le_refl _) _).setCell (Nat.le_refl _) _).setCell (Nat.le_refl _) _).setCell (Nat.le_refl _) _).setCell (Nat.le_refl _) _
        have HB9 := Lib.hid hb9
        clear hb9
        generalize toB (P 2) = t2 at *
        generalize toB (P 4) = t4 at *
        go_still_tail 21, (by kernel_rfl)
        go_wp2_with fail
        rw [← HQ.out]
        refine bodyPost_ret (v := .tuple #[.agg #[.int .u64 (st2 0 : Int), .int .u64 (st2 1 : Int), .int .u64 (st2 2 : Int), .int .u64 (st2 3 : Int), .int .u64 (st2 4 : Int), .bool q2, .bool q4], .int .i64 0]) (by simp [results, Tryz.results10, go_sem, cz]) rfl ⟨.inl ⟨st, fun k hk => ⟨HI1.out k hk, HSt.out k⟩, ?_⟩, (HB9.out _ _ _ _ _ _ _).drew⟩
        rw [HF.out, HF0.out 0 (by decide), HF0.out 1 (by decide), HF0.out 2 (by decide), HF0.out 3 (by decide), HQ2.out, HQ4.out]

end Go.Proofs.YtlhaidibcocooaaGreatDoor
