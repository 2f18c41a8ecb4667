/- Times, the reference: a field is shown. (Begun; see NOTES.md.) -/
import Derived.Test.YtlhaidibcocooaaGreatDoorTimesD
namespace Go.Proofs.YtlhaidibcocooaaGreatDoor
open Go.RowKit

theorem tlist_var (set : Nat) (hs : set < 18446744073709551616) : ∃ d : ByteArray, d = ⟨(fieldT (listK set)).toArray⟩ ∧ d.size ≤ 384 ∧ ∀ W, Calls Tryz.prog 55 #[.int .u64 (set : Int)] W fun e w' => e = .returned (.string d) ∧ Below W.heap.size W w' :=
  ⟨_, rfl, by show (fieldT (listK set)).toArray.size ≤ 384; rw [List.size_toArray]; exact listT_small set, fun W => tList_any set W hs⟩

set_option maxRecDepth 100000 in
set_option maxHeartbeats 3200000 in
theorem show_any (low high : Nat) (wk : Bool) (set : Nat) (special any : Bool) (w : World) (hset : set < 18446744073709551616) (hh : high ≤ 59) (hlh : low ≤ high) (hwk : (wk = true ∧ low = 0 ∧ high = 6) ∨ (wk = false ∧ high ≠ 6)) :
    Calls Tryz.prog 25 #[.int .u64 (set : Int), .int .i64 (low : Int), .int .i64 (high : Int), .bool any, .bool special] w fun e w' => e = .returned (shownV low high wk set special any) ∧ Below w.heap.size w w' := by
  have hall : allN low high < 18446744073709551616 := orL_lt _ 0 64 (fun n hn => by have := upL_lt low high 1 n hn; omega) (by decide)
  have htop : topOf high wk ≤ 59 ∧ low ≤ topOf high wk := by
    unfold topOf
    rcases hwk with ⟨rfl, h1, h2⟩ | ⟨rfl, h1⟩
    · simp [h1]
    · simp; omega
  have HStl := Lib.hid (fun n => stepN_lt low (topOf high wk) wk n (by omega))
  obtain ⟨V, hV⟩ : ∃ V, shownV low high wk set special any = V := ⟨_, rfl⟩
  rw [hV]
  obtain ⟨TB, hTB⟩ : ∃ TB, tryBy low (topOf high wk) wk set 99 1 = TB := ⟨_, rfl⟩
  have HTB := Lib.hid hTB
  obtain ⟨AL, hAL⟩ : ∃ AL, allN low high = AL := ⟨_, rfl⟩
  rw [hAL] at hall
  have hw6 : ((high : Int) == 6) = wk := by
    rcases hwk with ⟨rfl, _, rfl⟩ | ⟨rfl, h1⟩
    · rfl
    · rw [beq_eq_false_iff_ne]; omega
  obtain ⟨top, htp⟩ : ∃ top, topOf high wk = top := ⟨_, rfl⟩
  have htp2 : (wk = true ∧ top = 7) ∨ (wk = false ∧ top = high) := by
    rw [← htp]
    unfold topOf
    cases wk
    · exact .inr ⟨rfl, rfl⟩
    · exact .inl ⟨rfl, rfl⟩
  have hVV := hV
  unfold shownV shownK at hVV
  rw [hAL, htp] at hVV
  have HVV := Lib.hid hVV
  have HAL := Lib.hid (show orL 0 (upL low high 1) = AL from hAL)
  rw [htp] at HStl HTB htop
  have hsub := andNot_at set AL hset hall
  clear hTB hAL htp hVV hV hwk
  go_enter Tryz.func25, Tryz.ntmps25
  go_wp2_with fail
  go_loopw [12, 13] (fun s12 s13 wr => ∃ acc n : Nat, s12 = .int .u64 (acc : Int) ∧ s13 = .int .i64 (n : Int) ∧ n ≤ high + 1 ∧ acc < 18446744073709551616 ∧ Hid (orL acc (upL n high 1) = AL) ∧ wr = w) (fun _ s5 _ => high + 1 - (intOf s5).toNat)
  case atStart => exact ⟨0, low, rfl, rfl, by omega, by decide, HAL.out, rfl⟩
  case round =>
    obtain ⟨acc, n, rfl, rfl, hn, hacc, HE, rfl⟩ := hrel
    by_cases hlt : n ≤ high
    · have HE2 := HE.out
      unfold upL at HE2
      rw [dif_pos ⟨hlt, by decide⟩, orL] at HE2
      have HE3 := Lib.hid HE2
      have hor := or_bit acc n hacc (by omega)
      have hlt2 := Lib.hid (or_lt acc n hacc (by omega))
      clear HE2 HE
      generalize acc ||| 2 ^ n = acc2 at *
      go_wp2_with fail
      exact ⟨⟨acc2, n + 1, rfl, by go_num, by omega, hlt2.out, HE3, trivial⟩, by simp [intOf]; omega⟩
    · have hR : acc = AL := by
        have h := HE.out
        unfold upL at h
        rw [dif_neg (by omega)] at h
        exact h
      subst hR
      clear HE
      rcases Nat.eq_zero_or_pos set with h0 | h0
      · subst h0
        have hV2 := HVV.out
        rw [if_pos (.inl rfl)] at hV2
        have HVf := Lib.hid hV2
        clear hV2 HVV HTB hsub
        go_wp2_with fail
        go_ret2
        exact ⟨by rw [← HVf.out]; rfl, Below.refl _ _⟩
      · have hz : ((set : Int) == 0) = false := by rw [beq_eq_false_iff_ne]; omega
        rcases Nat.eq_zero_or_pos (subN set acc) with h1 | h1
        · rw [h1] at hsub
          have hV2 := HVV.out
          rw [if_neg (by rintro (h | h) <;> omega)] at hV2
          have HV2 := Lib.hid hV2
          clear HVV hV2
          have hV3 := HV2.out
          by_cases heq : set = acc ∧ (any = true ∨ special = false)
          · rw [if_pos heq] at hV3
            have hqq : ((set : Int) == (acc : Int)) = true := by rw [heq.1]; simp
            have has := heq.2
            have HVf := Lib.hid hV3
            clear hV3 HV2 HTB heq
            rcases has with rfl | rfl
            · go_wp2_with fail
              go_ret2
              exact ⟨by rw [← HVf.out]; rfl, Below.refl _ _⟩
            · cases any
              all_goals
                go_wp2_with fail
                go_ret2
                exact ⟨by rw [← HVf.out]; rfl, Below.refl _ _⟩
          · rw [if_neg heq] at hV3
            have hcase : ((set : Int) == (acc : Int)) = false ∨ (((set : Int) == (acc : Int)) = true ∧ any = false ∧ special = true) := by
              by_cases h : set = acc
              · refine .inr ⟨by rw [h]; simp, ?_, ?_⟩
                · cases any with
                  | false => rfl
                  | true => exact absurd ⟨h, .inl rfl⟩ heq
                · cases special with
                  | true => rfl
                  | false => exact absurd ⟨h, .inr rfl⟩ heq
              · exact .inl (by rw [beq_eq_false_iff_ne]; omega)
            clear heq
            cases any with
            | false =>
              rw [if_pos rfl] at hV3
              have HVf := Lib.hid hV3
              clear hV3 HV2 HTB
              rcases hcase with hqq | ⟨hqq, _, rfl⟩
              all_goals
                go_wp2_with fail
                refine (tList_any set wr hset).mono ?_
                rintro e w4 ⟨rfl, hb4⟩
                have HB4 := Lib.hid hb4
                clear hb4
                go_wp2_with fail
                go_ret2
                exact ⟨by rw [← HVf.out]; rfl, HB4.out⟩
            | true =>
              rw [if_neg (by decide), HTB.out] at hV3
              have HV4 := Lib.hid hV3
              have hqq : ((set : Int) == (acc : Int)) = false := by
                rcases hcase with h | ⟨_, h, _⟩
                · exact h
                · cases h
              clear hV3 HV2 hcase
              go_wp2_with fail
              obtain ⟨wo, hwo⟩ : ∃ wo, wo = wr := ⟨_, rfl⟩
              subst hwo
              go_loopw [14] (fun s14 wx => ∃ n : Nat, s14 = .int .i64 (n : Int) ∧ 1 ≤ n ∧ n ≤ 100 ∧ Hid (tryBy low top wk set (100 - n) n = TB) ∧ wx = wo) (fun s14 _ => 100 - (intOf s14).toNat)
              case atStart => exact ⟨1, rfl, Nat.le_refl _, by decide, HTB.out, rfl⟩
              case round =>
                obtain ⟨n, rfl, hn1, hn2, HT, rfl⟩ := hrel
                by_cases hlt9 : n ≤ 99
                · have hT := HT.out
                  rw [show 100 - n = (100 - (n + 1)) + 1 by omega, tryBy] at hT
                  have hltI : decide ((n : Int) ≤ 99) = true := by rw [decide_eq_true_eq]; omega
                  have hSl := HStl.out n
                  obtain ⟨S, hS⟩ : ∃ S, stepN low top wk n = S := ⟨_, rfl⟩
                  rw [hS] at hT hSl
                  have hss := andNot_at S set hSl hset
                  have hsr := andNot_at set S hset hSl
                  have hSS := Lib.hid hS
                  have HSo := Lib.hid (show orL 0 ((upL low top n).map (foldS wk)) = S from hS)
                  have HTT := Lib.hid hT
                  clear hS HT hT
                  obtain ⟨wp, hwp⟩ : ∃ wp, wp = wr := ⟨_, rfl⟩
                  subst hwp
                  go_upto_if 59 with fail
                  go_cut [16] (fun s16 wx => s16 = .int .i64 (top : Int) ∧ wx = wp)
                  case first =>
                    rcases htp2 with ⟨h1, h2⟩ | ⟨h1, h2⟩
                    · subst h1
                      subst h2
                      go_wp2_with fail
                      go_meet
                      exact ⟨rfl, rfl⟩
                    · subst h1
                      subst h2
                      go_wp2_with fail
                      go_meet
                      exact ⟨rfl, rfl⟩
                  case rest =>
                    obtain ⟨rfl, hwc⟩ := hcut
                    subst hwc
                    go_wp2_with fail
                    obtain ⟨wq, hwq⟩ : ∃ wq, wq = wc := ⟨_, rfl⟩
                    subst hwq
                    go_loopw [15, 17] (fun s15 s17 wx => ∃ ac m : Nat, s15 = .int .u64 (ac : Int) ∧ s17 = .int .i64 (m : Int) ∧ m ≤ top + 99 ∧ ac < 18446744073709551616 ∧ Hid (orL ac ((upL m top n).map (foldS wk)) = S) ∧ wx = wq) (fun _ s17 _ => top + 99 - (intOf s17).toNat)
                    case atStart => exact ⟨0, low, rfl, rfl, by omega, by decide, HSo.out, rfl⟩
                    case round =>
                      obtain ⟨ac, m, rfl, rfl, hm, hac, HE, rfl⟩ := hrel
                      by_cases hmt : m ≤ top
                      · have HE2 := HE.out
                        unfold upL at HE2
                        rw [dif_pos ⟨hmt, by omega⟩, List.map_cons, orL] at HE2
                        by_cases hf : wk = true ∧ m = 7
                        · obtain ⟨rfl, rfl⟩ := hf
                          have HE3 : Hid (orL (ac ||| 1) ((upL (7 + n) top n).map (foldS true)) = S) := Lib.hid HE2
                          have hor : bits .or .u64 (ac : Int) 1 = ((ac ||| 1 : Nat) : Int) := u64_or_nat ac 1 hac (by decide)
                          have hlt2 : Hid (ac ||| 1 < 18446744073709551616) := Lib.hid (or_lt ac 0 hac (by omega))
                          clear HE2 HE
                          generalize ac ||| 1 = acc2 at *
                          go_wp2_with fail
                          go_roundw
                          case rel => exact ⟨acc2, 7 + n, rfl, by go_num, by omega, hlt2.out, HE3, trivial⟩
                          case measure => simp [intOf]; omega
                        · have hfs : foldS wk m = m := by unfold foldS; rw [if_neg hf]
                          rw [hfs] at HE2
                          have HE3 := Lib.hid HE2
                          have hor := or_bit ac m hac (by omega)
                          have hlt2 := Lib.hid (or_lt ac m hac (by omega))
                          have hff : wk = false ∨ (wk = true ∧ ((m : Int) == 7) = false) := by
                            cases wk with
                            | false => exact .inl rfl
                            | true => exact .inr ⟨rfl, by rw [beq_eq_false_iff_ne]; intro h; exact hf ⟨rfl, by omega⟩⟩
                          clear HE2 HE hf hfs
                          generalize ac ||| 2 ^ m = acc2 at *
                          rcases hff with e7 | ⟨e7, e8⟩
                          all_goals
                            subst e7
                            go_wp2_with fail
                            go_roundw
                            case rel => exact ⟨acc2, m + n, rfl, by go_num, by omega, hlt2.out, HE3, trivial⟩
                            case measure => simp [intOf]; omega
                      · have hR : ac = S := by
                          have h := HE.out
                          unfold upL at h
                          rw [dif_neg (by omega)] at h
                          exact h
                        subst hR
                        clear HE HSo
                        have hT := HTT.out
                        rcases Nat.eq_zero_or_pos (subN ac set) with hz1 | hz1
                        · rw [hz1] at hss
                          rw [if_pos hz1] at hT
                          have hVn := HV4.out
                          rw [← hT] at hVn
                          obtain ⟨dn, hdn0, hdns, hdnc⟩ := itoa_var (n := n) (by omega)
                          have hdn := Lib.hid hdn0
                          have HDn := Lib.hid hdnc
                          have hVm : Value.tuple #[.string ⟨(fieldT (.starBy n :: listK (subN set ac))).toArray⟩, .bool true] = V := by rw [← hSS.out]; exact hVn
                          have HVn := Lib.hid hVm
                          clear hdn0 hdnc hT hVn hVm HTT
                          go_wp2_with fail
                          refine (HDn.out _).mono ?_
                          rintro e w5 ⟨rfl, hw5⟩
                          rw [hw5]
                          clear hw5
                          rcases Nat.eq_zero_or_pos (subN set ac) with hz2 | hz2
                          · rw [hz2] at hsr
                            have HVo := Lib.hid (show Value.tuple #[.string (⟨#[42, 47]⟩ ++ dn), .bool true] = V from by rw [star_bytes0 hdn.out, ← hz2]; exact HVn.out)
                            clear hz2
                            go_wp2_with fail
                            go_ret2
                            exact ⟨by rw [← HVo.out]; rfl, Below.refl _ _⟩
                          · have hn0 : (((subN set ac : Nat) : Int) == 0) = false := by rw [beq_eq_false_iff_ne]; omega
                            have hrl := subN_lt set ac hset
                            obtain ⟨ls, hls0, hlss, hlsc⟩ := tlist_var (subN set ac) hrl
                            have HLs := Lib.hid hlsc
                            have HVo := Lib.hid (show Value.tuple #[.string (⟨#[42, 47]⟩ ++ dn ++ (⟨#[44]⟩ ++ ls)), .bool true] = V from by rw [star_bytes hdn.out hls0 (by omega) hrl]; exact HVn.out)
                            clear hlsc hls0
                            generalize subN set ac = rest at *
                            go_wp2_with fail
                            refine (HLs.out _).mono ?_
                            rintro e w6 ⟨rfl, hb6⟩
                            have HB6 := Lib.hid hb6
                            clear hb6
                            go_wp2_with fail
                            go_ret2
                            exact ⟨by rw [← HVo.out]; rfl, HB6.out⟩
                        · have hz2 : (((subN ac set : Nat) : Int) == 0) = false := by rw [beq_eq_false_iff_ne]; omega
                          rw [if_neg (by omega)] at hT
                          have HT2 := Lib.hid hT
                          clear hT HTT
                          go_wp2_with fail
                          go_roundw
                          case rel => exact ⟨n + 1, by go_num, by omega, by omega, HT2, trivial⟩
                          case measure => simp [intOf]; omega
                · have hnn : n = 100 := by omega
                  subst hnn
                  have hT := HT.out
                  rw [show 100 - 100 = 0 from rfl, tryBy] at hT
                  have hVn := HV4.out
                  rw [← hT] at hVn
                  have HVn := Lib.hid hVn
                  clear hT hVn HT
                  go_wp2_with fail
                  go_ret2
                  exact ⟨by rw [← HVn.out]; rfl, Below.refl _ _⟩
        · have hn0 : (((subN set acc : Nat) : Int) == 0) = false := by rw [beq_eq_false_iff_ne]; omega
          have hV2 := HVV.out
          rw [if_pos (.inr (by omega))] at hV2
          have HVf := Lib.hid hV2
          clear hV2 HVV HTB
          go_wp2_with fail
          go_ret2
          exact ⟨by rw [← HVf.out]; rfl, Below.refl _ _⟩

end Go.Proofs.YtlhaidibcocooaaGreatDoor
