/- ConstMatches, the law's words: one step of the generator. (Begun; see NOTES.md.) -/
import Derived.Test.YtbgmjmooifjhjaaDoorDiceG
import Derived.Test.YtbgmjmooifjhjaaDoorDiceF
import Derived.Deep.RegionLaw
namespace Go.Proofs.YtbgmjmooifjhjaaDoor
open Go.RowKit

abbrev CI (b B C : Nat) (d : Int) : Prop := ∀ W k', DB W b B k' → k' + C ≤ 4611686018427387904 → Calls Tryd.prog 18 #[.pointer (some ⟨b, 0, none⟩), .int .i64 d] W (IP b B (k' + C) W)
/-- what building a word leaves -/
def WP (b B m : Nat) (w : World) (e : Ending) (w' : World) : Prop := ∃ (v : Value) (l : List PQ), e = .returned v ∧ l.length ≤ 3 ∧ WS b B m w w' v l
theorem WS.nil {b B k : Nat} {w : World} (h : DB w b B k) : WS b B k w w (.slice none 0 0) [] := ⟨h.base, h, Only.refl b w, ⟨rfl, .inl ⟨rfl, rfl⟩⟩, fun p hp => by simp at hp⟩
theorem WS.form {b B k : Nat} {a w : World} {v : Value} {l : List PQ} (h : WS b B k a w v l) : ∃ A c, v = .slice A l.length c ∧ (0 < l.length → ∃ g, A = some ⟨g, 0, none⟩) := by
  rcases h.own.2 with ⟨rfl, h0⟩ | ⟨g, cap, cur, rfl, _⟩
  · exact ⟨none, 0, by rw [h0], fun h => by omega⟩
  · exact ⟨_, cap, rfl, fun _ => ⟨g, rfl⟩⟩

set_option maxRecDepth 100000 in
set_option maxHeartbeats 4000000 in
theorem word_step (b B k C : Nat) (deep : Int) (w : World) (h : DB w b B k) (hk : k + 9 * C + 100 ≤ 4611686018427387904) (hdp : -100 ≤ deep) (hdp2 : deep ≤ 2)
    (hI : 0 < deep → CI b B C deep) (hI2 : 0 < deep → CI b B C (deep - 1)) :
    Calls Tryd.prog 7 #[.pointer (some ⟨b, 0, none⟩), .int .i64 deep] w (WP b B (k + 9 * C + 100) w) := by
  have e1 : IntKind.i64.wrap (deep - 1) = deep - 1 := IntWalk.i64_in _ (by omega)
  have HI := Lib.hid hI
  have HI2 := Lib.hid hI2
  have HW := Lib.hid (WS.nil h)
  have hbase := h.base
  obtain ⟨i0, hi, hz0, hz1, hz2⟩ := info_parts pieceInfo
  clear h hI hI2
  go_enter Tryd.func7, Tryd.ntmps7
  go_wp2_with fail
  refine (roll_b b B k 3 _ HW.out.db (by omega) (by omega) (by omega)).mono ?_
  rintro e w2 ⟨r, rfl, hr0, hr1, hd2, ho2⟩
  have HS2 := Lib.hid (HW.out.step hd2 ho2)
  clear hd2 ho2 HW
  have e2 : IntKind.i64.wrap (1 + r) = 1 + r := IntWalk.i64_in _ (by omega)
  go_wp2_with fail
  go_loopw [5, 13] (fun s5 s13 wr => ∃ (v : Value) (j : Nat) (l : List PQ), v = s5 ∧ s13 = .int .i64 (j : Int) ∧ (j : Int) ≤ 1 + r ∧ l.length ≤ j ∧ Hid (WS b B (k + 1 + j * (3 * C + 30)) w wr v l)) (fun _ s13 _ => 3 - (intOf s13).toNat)
  case atStart => exact ⟨_, 0, [], rfl, rfl, by omega, Nat.le_refl _, HS2.out.more (by omega)⟩
  case round =>
    obtain ⟨v, j, l, rfl, rfl, hj, hlj, HS⟩ := hrel
    by_cases hlt : (j : Int) < 1 + r
    · have hj2 : j ≤ 2 := by omega
      have hjm : j * (3 * C + 30) ≤ 2 * (3 * C + 30) := Nat.mul_le_mul_right _ hj2
      obtain ⟨kj, hkj⟩ : ∃ kj, k + 1 + j * (3 * C + 30) = kj := ⟨_, rfl⟩
      have HKJ : Hid (kj + 3 * C + 30 ≤ k + 1 + (j + 1) * (3 * C + 30)) := Lib.hid (by have := Nat.add_one_mul j (3 * C + 30); omega)
      have hkB : kj + 3 * C + 30 ≤ 4611686018427387904 := by omega
      have HM := Lib.hid (show l.length + 1 ≤ maxLen ∧ (l.length + 1) * 72 ≤ 140737488355328 from ⟨by unfold maxLen; omega, by omega⟩)
      have HS1 : Hid (WS b B kj w wr v l) := Lib.hid (by rw [← hkj]; exact HS.out)
      clear HS hjm hkj HS2
      obtain ⟨A, c, rfl, hA⟩ := HS1.out.form
      have HAA := Lib.hid hA
      clear hA
      go_wp2_with fail
      refine (roll_b b B kj 6 _ HS1.out.db (by omega) (by omega) (by omega)).mono ?_
      rintro e w3 ⟨kd, rfl, hk0, hk1, hd3, ho3⟩
      have HS3 := Lib.hid (HS1.out.step hd3 ho3)
      clear hd3 ho3 HS1
      go_upto_region 5 with fail
      go_cut [23] (fun s23 wx => ∃ q : Bool, s23 = .bool q ∧ (q = false → 0 < deep) ∧ Hid (WS b B (kj + 2) w wx (.slice A l.length c) l))
      case first =>
        by_cases h0 : deep ≤ 0
        · go_wp2_with fail
          go_meet
          exact ⟨true, rfl, nofun, HS3.out.more (by omega)⟩
        · go_wp2_with fail
          refine (more_b b B (kj + 1) _ HS3.out.db (by omega)).mono ?_
          rintro e w4 ⟨q, rfl, hd4, ho4⟩
          have HS4 := Lib.hid (HS3.out.step hd4 ho4)
          clear hd4 ho4
          cases q
          all_goals
            go_wp2_with fail
            go_meet
            exact ⟨_, rfl, fun _ => by omega, HS4.out⟩
      case rest =>
        obtain ⟨q, rfl, hq, HS5⟩ := hcut
        clear HS3
        go_upto_if 23 with fail
        go_cut [6] (fun s6 wx => ∃ kk : Int, s6 = .int .i64 kk ∧ (deep ≤ 0 → kk < 3) ∧ 0 ≤ kk ∧ kk < 6 ∧ Hid (WS b B (kj + 3) w wx (.slice A l.length c) l))
        case first =>
          cases q with
          | true =>
            go_wp2_with fail
            refine (roll_b b B (kj + 2) 3 _ HS5.out.db (by omega) (by omega) (by omega)).mono ?_
            rintro e w4 ⟨kk, rfl, hk2, hk3, hd4, ho4⟩
            have HS6 := Lib.hid (HS5.out.step hd4 ho4)
            clear hd4 ho4
            go_wp2_with fail
            go_meet
            exact ⟨kk, rfl, fun _ => hk3, hk2, by omega, HS6.out⟩
          | false =>
            have h0 := hq rfl
            go_wp2_with fail
            go_meet
            exact ⟨kd, rfl, fun _ => by omega, hk0, hk1, HS5.out.more (by omega)⟩
        case rest =>
          obtain ⟨kk, rfl, hkz, hk2, hk3, HS6⟩ := hcut
          clear HS5 hq
          go_upto_if 28 with fail
          go_cut [7] (fun s7 wx => ∃ x : Int, s7 = .int .i64 x ∧ Hid (WS b B (kj + 3) w wx (.slice A l.length c) l))
          case first =>
            rcases Nat.eq_zero_or_pos l.length with hz | hz
            · go_wp2_with fail
              go_meet
              exact ⟨0, rfl, HS6.out⟩
            · obtain ⟨g, rfl⟩ := HAA.out hz
              obtain ⟨m, hm⟩ : ∃ m, l.length = m + 1 := ⟨l.length - 1, by omega⟩
              obtain ⟨_, _, _, c0, _⟩ := row_piece HS6.out.own m (by omega)
              rw [Nat.zero_add] at c0
              have e3 : IntKind.i64.wrap ((l.length : Int) - 1) = (m : Int) := by rw [IntWalk.i64_in _ (by omega)]; omega
              generalize l[m].kind = lk at *
              go_wp2_with fail
              go_meet
              exact ⟨_, rfl, HS6.out⟩
          case rest =>
            obtain ⟨x, rfl, HS7⟩ := hcut
            clear HS6
            cases k0 : (kk == 0) with
            | true =>
              cases q1 : (x == 1) with
              | true =>
                go_wp2_with fail
                go_roundw
                case rel => exact ⟨_, j + 1, l, rfl, by go_num, by omega, by omega, HS7.out.more (Nat.le_trans (by omega) HKJ.out)⟩
                case measure => simp [intOf]; omega
              | false =>
                go_wp2_with fail
                refine (of_b b B (kj + 3) [⟨#[97]⟩, ⟨#[98, 99]⟩, ⟨#[45, 110]⟩, ⟨#[120, 46, 121]⟩, ⟨#[42]⟩, ⟨#[97, 63]⟩, ⟨#[91, 97, 98, 93]⟩, ⟨#[126, 47, 113]⟩, ⟨#[126]⟩, ⟨#[100, 47, 102]⟩, ⟨#[49]⟩, ⟨#[50, 50]⟩, ⟨#[101, 61, 102]⟩, ⟨#[105, 110]⟩, ⟨#[37]⟩, ⟨#[97, 35]⟩, ⟨#[125]⟩, ⟨#[123, 97]⟩, ⟨#[93]⟩, ⟨#[33, 98]⟩] _ wc HS7.out.db (by omega) (by decide) (by decide) rfl).mono ?_
                rintro e w4 ⟨s, rfl, hs, hd4, ho4⟩
                have HSa := Lib.hid (HS7.out.step hd4 ho4)
                have HT := Lib.hid (small_text (by decide) hs)
                clear hd4 ho4 hs HS7
                go_wp2_with fail
                refine (bare_any s w4).mono ?_
                rintro e w5 ⟨rfl, hb5⟩
                have HSb := Lib.hid (HSa.out.step (HSa.out.db.keep hb5) ((Only.refl b w4).keep hb5))
                clear hb5 HSa
                go_wp2_with (at_builtin; refine wpList_append_lies _ rfl _ _ 25 rfl w.heap.size 51 i0 _ 6 72 Tryd.underlying25 hi hz0 hz1 hz2 rfl (by decide) _ l.length _ rfl (HSb.out.alloc _).own _ 1 1 [.int .i64 1, .string s, .slice none 0 0, .pointer none, .pointer none, .pointer none] rfl rfl (World.news_of_block (heap_alloc_new _ _)) (by intro u hu; simp at hu; rcases hu with rfl | rfl | rfl | rfl | rfl | rfl <;> rfl) (by decide) HM.out.1 HM.out.2 (Nat.le_trans HSb.out.only.size (by simp)) _ rfl ?_)
                intro g1 cap w9 hown9 hg9 hat9 _
                have HF := Lib.hid (WS.append (p := ⟨1, s, .slice none 0 0, none, none, none, []⟩) (HSb.out.alloc _) (GoodP.plain 1 s none none none HT.out) hown9 hg9 (hat9.imp id fun e => e.trans (by simp)))
                clear hown9 hg9 hat9
                go_wp2_with fail
                go_roundw
                case rel => exact ⟨_, j + 1, _, rfl, by go_num, by omega, by rw [List.length_append]; simp; omega, HF.out.more (Nat.le_trans (by omega) HKJ.out)⟩
                case measure => simp [intOf]; omega
            | false =>
              cases k1 : (kk == 1) with
              | true =>
                go_wp2_with fail
                refine (of_b b B (kj + 3) [⟨#[]⟩, ⟨#[97, 32, 98]⟩, ⟨#[36, 120]⟩, ⟨#[105, 116, 34, 115]⟩, ⟨#[42]⟩, ⟨#[10]⟩, ⟨#[92]⟩, ⟨#[35]⟩] _ wc HS7.out.db (by omega) (by decide) (by decide) rfl).mono ?_
                rintro e w4 ⟨s, rfl, hs, hd4, ho4⟩
                have HSa := Lib.hid (HS7.out.step hd4 ho4)
                have HT := Lib.hid (small_text (by decide) hs)
                clear hd4 ho4 hs HS7
                go_wp2_with (at_builtin; refine wpList_append_lies _ rfl _ _ 25 rfl w.heap.size 51 i0 _ 6 72 Tryd.underlying25 hi hz0 hz1 hz2 rfl (by decide) _ l.length _ rfl (HSa.out.alloc _).own _ 1 1 [.int .i64 3, .string s, .slice none 0 0, .pointer none, .pointer none, .pointer none] rfl rfl (World.news_of_block (heap_alloc_new _ _)) (by intro u hu; simp at hu; rcases hu with rfl | rfl | rfl | rfl | rfl | rfl <;> rfl) (by decide) HM.out.1 HM.out.2 (Nat.le_trans HSa.out.only.size (by simp)) _ rfl ?_)
                intro g1 cap w9 hown9 hg9 hat9 _
                have HF := Lib.hid (WS.append (p := ⟨3, s, .slice none 0 0, none, none, none, []⟩) (HSa.out.alloc _) (GoodP.plain 3 s none none none HT.out) hown9 hg9 (hat9.imp id fun e => e.trans (by simp)))
                clear hown9 hg9 hat9
                go_wp2_with fail
                go_roundw
                case rel => exact ⟨_, j + 1, _, rfl, by go_num, by omega, by rw [List.length_append]; simp; omega, HF.out.more (Nat.le_trans (by omega) HKJ.out)⟩
                case measure => simp [intOf]; omega
              | false =>
                cases k2 : (kk == 2) with
                | true =>
                  go_wp2_with fail
                  refine (of_b b B (kj + 3) [⟨#[32]⟩, ⟨#[36]⟩, ⟨#[39]⟩, ⟨#[92]⟩, ⟨#[42]⟩, ⟨#[97]⟩, ⟨#[126]⟩, ⟨#[35]⟩, ⟨#[124]⟩] _ wc HS7.out.db (by omega) (by decide) (by decide) rfl).mono ?_
                  rintro e w4 ⟨s, rfl, hs, hd4, ho4⟩
                  have HSa := Lib.hid (HS7.out.step hd4 ho4)
                  have HT := Lib.hid (small_text (by decide) hs)
                  clear hd4 ho4 hs HS7
                  go_wp2_with (at_builtin; refine wpList_append_lies _ rfl _ _ 25 rfl w.heap.size 51 i0 _ 6 72 Tryd.underlying25 hi hz0 hz1 hz2 rfl (by decide) _ l.length _ rfl (HSa.out.alloc _).own _ 1 1 [.int .i64 2, .string s, .slice none 0 0, .pointer none, .pointer none, .pointer none] rfl rfl (World.news_of_block (heap_alloc_new _ _)) (by intro u hu; simp at hu; rcases hu with rfl | rfl | rfl | rfl | rfl | rfl <;> rfl) (by decide) HM.out.1 HM.out.2 (Nat.le_trans HSa.out.only.size (by simp)) _ rfl ?_)
                  intro g1 cap w9 hown9 hg9 hat9 _
                  have HF := Lib.hid (WS.append (p := ⟨2, s, .slice none 0 0, none, none, none, []⟩) (HSa.out.alloc _) (GoodP.plain 2 s none none none HT.out) hown9 hg9 (hat9.imp id fun e => e.trans (by simp)))
                  clear hown9 hg9 hat9
                  go_wp2_with fail
                  go_roundw
                  case rel => exact ⟨_, j + 1, _, rfl, by go_num, by omega, by rw [List.length_append]; simp; omega, HF.out.more (Nat.le_trans (by omega) HKJ.out)⟩
                  case measure => simp [intOf]; omega
                | false =>
                  have k2' : kk ≠ 0 ∧ kk ≠ 1 ∧ kk ≠ 2 := ⟨beq_eq_false_iff_ne.1 k0, beq_eq_false_iff_ne.1 k1, beq_eq_false_iff_ne.1 k2⟩
                  have hpos : 0 < deep := by omega
                  clear k2' hkz
                  cases k3 : (kk == 3) with
                  | true =>
                    go_upto_region 21 with fail
                    have HX0 := Lib.hid (XS.start HS7.out)
                    generalize wc.alloc (.cells #[.int .i64 4, .string ⟨#[]⟩, .slice none 0 0, .pointer none, .pointer none, .pointer none] 51) = w4 at *
                    generalize wc.heap.size = gx at *
                    clear HS7
                    go_wp2_with fail
                    refine (roll_b b B (kj + 3) 4 _ HX0.out.ws.db (by omega) (by omega) (by omega)).mono ?_
                    rintro e w5 ⟨n, rfl, hn0, hn1, hd5, ho5⟩
                    have HX5 := Lib.hid (HX0.out.step hd5 ho5)
                    clear hd5 ho5 HX0
                    go_wp2_with fail
                    go_loopw [77] (fun s77 wx => ∃ (i : Nat) (subs : List PQ) (pv : Value), s77 = .int .i64 (i : Int) ∧ (i : Int) ≤ n ∧ subs.length ≤ i ∧ Hid (XS b B (kj + 4 + i * (C + 2)) gx w wx (.slice A l.length c) l pv pv subs)) (fun s77 _ => 4 - (intOf s77).toNat)
                    case atStart => exact ⟨0, [], _, rfl, by omega, Nat.le_refl _, HX5.out.more (by omega)⟩
                    case round =>
                      obtain ⟨wo, hwo⟩ : ∃ wo, wo = wr := ⟨_, rfl⟩
                      subst hwo
                      obtain ⟨i, subs, pv, rfl, hi1, hsi, HX⟩ := hrel
                      by_cases hin : (i : Int) < n
                      · have him : i * (C + 2) ≤ 2 * (C + 2) := Nat.mul_le_mul_right _ (by omega)
                        obtain ⟨ki, hki⟩ : ∃ ki, kj + 4 + i * (C + 2) = ki := ⟨_, rfl⟩
                        have HKI : Hid (ki + 2 + C ≤ kj + 4 + (i + 1) * (C + 2)) := Lib.hid (by have := Nat.add_one_mul i (C + 2); omega)
                        have hkI : ki + 2 + C ≤ 4611686018427387904 := by omega
                        have HMS := Lib.hid (show subs.length + 1 ≤ maxLen ∧ (subs.length + 1) * 72 ≤ 140737488355328 from ⟨by unfold maxLen; omega, by omega⟩)
                        have HX1 : Hid (XS b B ki gx w wo (.slice A l.length c) l pv pv subs) := Lib.hid (by rw [← hki]; exact HX.out)
                        clear HX him hki HX5
                        obtain ⟨A2, c2, rfl, hA2⟩ := HX1.out.form
                        have HA2 := Lib.hid hA2
                        obtain ⟨cx, zx, lx⟩ := HX1.out.look
                        clear hA2
                        go_upto_region 24 with fail
                        go_cut [9, 98] (fun s9 s98 wx => ∃ (s9' : Value) (q : Bool), s9' = s9 ∧ s98 = .bool q ∧ Hid (XS b B (ki + 1) gx w wx (.slice A l.length c) l (.slice A2 subs.length c2) (.slice A2 subs.length c2) subs))
                        case first =>
                          go_wp2_with fail
                          refine (roll_b b B ki 2 _ HX1.out.ws.db (by omega) (by omega) (by omega)).mono ?_
                          rintro e w6 ⟨r6, rfl, _, _, hd6, ho6⟩
                          have HX6 := Lib.hid (HX1.out.step hd6 ho6)
                          clear hd6 ho6 HX1 cx zx lx
                          obtain ⟨cx, zx, lx⟩ := HX6.out.look
                          cases q6 : (r6 == 0) with
                          | false =>
                            go_wp2_with fail
                            go_meet
                            exact ⟨_, _, rfl, rfl, HX6.out⟩
                          | true =>
                            rcases Nat.eq_zero_or_pos subs.length with hz | hz
                            · go_wp2_with fail
                              go_meet
                              exact ⟨_, _, rfl, rfl, HX6.out⟩
                            · obtain ⟨g, rfl⟩ := HA2.out hz
                              obtain ⟨m, hm⟩ : ∃ m, subs.length = m + 1 := ⟨subs.length - 1, by omega⟩
                              obtain ⟨_, _, _, c0, _⟩ := row_piece HX6.out.own m (by omega)
                              rw [Nat.zero_add] at c0
                              have e3 : IntKind.i64.wrap ((subs.length : Int) - 1) = (m : Int) := by rw [IntWalk.i64_in _ (by omega)]; omega
                              have hnz : ((subs.length : Int) == 0) = false := by rw [beq_eq_false_iff_ne]; omega
                              generalize subs[m].kind = lk at *
                              go_wp2_with fail
                              go_meet
                              exact ⟨_, _, rfl, rfl, HX6.out⟩
                        case rest =>
                          obtain ⟨s9', q, rfl, rfl, HX6⟩ := hcut
                          clear HX1 cx zx lx
                          obtain ⟨wp, hwp⟩ : ∃ wp, wp = wc := ⟨_, rfl⟩
                          subst hwp
                          obtain ⟨cx, zx, lx⟩ := HX6.out.look
                          have HXd := Lib.hid HX6.out.drew
                          cases q with
                          | true =>
                            go_upto_region 25 with fail
                            go_region_law (first
                              | (go_simp; go_at_call 17; (first | refine (of_b b B (ki + 1) [⟨#[97, 32, 98]⟩, ⟨#[36]⟩, ⟨#[39]⟩, ⟨#[92]⟩, ⟨#[34, 113, 34]⟩, ⟨#[42]⟩, ⟨#[10]⟩, ⟨#[32]⟩] _ wp.drew HXd.out.ws.db (by omega) (by decide) (by decide) rfl).mono ?_ | refine (of_d b B (ki + 1) [⟨#[97, 32, 98]⟩, ⟨#[36]⟩, ⟨#[39]⟩, ⟨#[92]⟩, ⟨#[34, 113, 34]⟩, ⟨#[42]⟩, ⟨#[10]⟩, ⟨#[32]⟩] _ wp HX6.out.ws.db (by omega) (by decide) (by decide) rfl).mono ?_); rintro e w10 ⟨s, rfl, hs, hd10, ho10⟩; (first | have HX10 := Lib.hid (HXd.out.step hd10 ho10) | have HX10 := Lib.hid (HX6.out.step hd10 ho10)); have HT := Lib.hid (small_text (by decide) hs); obtain ⟨c10, z10, l10⟩ := HX10.out.look; clear hd10 ho10 hs)
                              | (refine step_append_lies _ rfl _ _ 24 rfl (gx + 1) 51 i0 _ 6 72 Tryd.underlying24 hi hz0 hz1 hz2 rfl (by decide) _ subs.length _ (by rfl) (HX10.out.alloc _).own _ 1 1 [.int .i64 5, .string s, .slice none 0 0, .pointer none, .pointer none, .pointer none] (by rfl) rfl (World.news_of_block (heap_alloc_new _ _)) (by intro u hu; simp at hu; rcases hu with rfl | rfl | rfl | rfl | rfl | rfl <;> rfl) (by decide) HMS.out.1 HMS.out.2 (Nat.le_trans (Nat.succ_le_of_lt HX10.out.lt) (by simp)) _ rfl ?_; intro g1 cap w11 hown hgrow hat hlt; have HX11 := Lib.hid (XS.app (q := ⟨5, s, .slice none 0 0, none, none, none, []⟩) (HX10.out.alloc _) ⟨HT.out, none, 0, 0, rfl⟩ hown hgrow); obtain ⟨c11, z11, l11⟩ := HX11.out.look; clear hown hgrow hat hlt))
                            all_goals
                              go_wp2_with fail
                              go_roundw
                              case rel => exact ⟨i + 1, _, _, by go_num, by omega, by rw [List.length_append]; simp; omega, HX11.out.store.more (Nat.le_trans (by omega) HKI.out)⟩
                              case measure => simp [intOf]; omega
                          | false =>
                            go_upto_region 26 with fail
                            go_region_law (first
                              | (go_simp; go_at_call 18; refine (HI2.out hpos _ (ki + 1) ?db (by omega)).mono ?_; (case db => with_reducible exact HXd.out.ws.db); rintro e w10 ⟨kd10, p3, p4, p5, rfl, hd10, ho10⟩; have HX10 := Lib.hid (HXd.out.step hd10 ho10); obtain ⟨c10, z10, l10⟩ := HX10.out.look; clear hd10 ho10)
                              | (refine step_append_lies _ rfl _ _ 24 rfl (gx + 1) 51 i0 _ 6 72 Tryd.underlying24 hi hz0 hz1 hz2 rfl (by decide) _ subs.length _ (by rfl) (HX10.out.alloc _).own _ 1 1 [.int .i64 kd10, .string ⟨#[]⟩, .slice none 0 0, .pointer p3, .pointer p4, .pointer p5] (by rfl) rfl (World.news_of_block (heap_alloc_new _ _)) (by intro u hu; simp at hu; rcases hu with rfl | rfl | rfl | rfl | rfl | rfl <;> rfl) (by decide) HMS.out.1 HMS.out.2 (Nat.le_trans (Nat.succ_le_of_lt HX10.out.lt) (by simp)) _ rfl ?_; intro g1 cap w11 hown hgrow hat hlt; have HX11 := Lib.hid (XS.app (q := ⟨kd10, ⟨#[]⟩, .slice none 0 0, p3, p4, p5, []⟩) (HX10.out.alloc _) ⟨by show (⟨#[]⟩ : ByteArray).size ≤ 100; decide, none, 0, 0, rfl⟩ hown hgrow); obtain ⟨c11, z11, l11⟩ := HX11.out.look; clear hown hgrow hat hlt))
                            all_goals
                              go_wp2_with fail
                              go_roundw
                              case rel => exact ⟨i + 1, _, _, by go_num, by omega, by rw [List.length_append]; simp; omega, HX11.out.store.more (Nat.le_trans (by omega) HKI.out)⟩
                              case measure => simp [intOf]; omega
                      · have him : i * (C + 2) ≤ 3 * (C + 2) := Nat.mul_le_mul_right _ (by omega)
                        have HX1 := Lib.hid (HX.out.more (show kj + 4 + i * (C + 2) ≤ kj + 4 + 3 * (C + 2) by omega))
                        have hs4 : subs.length ≤ 4 := by omega
                        obtain ⟨cx, zx, lx⟩ := HX1.out.look
                        have HSa := Lib.hid HX1.out.ws
                        have HGd := Lib.hid (HX1.out.good hs4)
                        obtain ⟨A2, c2, rfl, _⟩ := HX1.out.form
                        clear HX HX1 HX5 him
                        go_wp2_with (at_builtin; refine wpList_append_lies _ rfl _ _ 25 rfl w.heap.size 51 i0 _ 6 72 Tryd.underlying25 hi hz0 hz1 hz2 rfl (by decide) _ l.length _ rfl (HSa.out.alloc _).own _ 1 1 [.int .i64 4, .string ⟨#[]⟩, .slice A2 subs.length c2, .pointer none, .pointer none, .pointer none] rfl rfl (World.news_of_block (heap_alloc_new _ _)) (by intro u hu; simp at hu; rcases hu with rfl | rfl | rfl | rfl | rfl | rfl <;> rfl) (by decide) HM.out.1 HM.out.2 (Nat.le_trans HSa.out.only.size (by simp)) _ rfl ?_)
                        intro g1 cap w9 hown9 hg9 hat9 _
                        have HF := Lib.hid (WS.append (p := ⟨4, ⟨#[]⟩, .slice A2 subs.length c2, none, none, none, subQ subs⟩) (HSa.out.alloc _) ((HGd.out.blocks (fun q hq => (heap_alloc_old _ _ (HGd.out.far q hq).2.1)) (by simp))) hown9 hg9 (hat9.imp id fun e => e.trans (by simp)))
                        clear hown9 hg9 hat9
                        go_wp2_with fail
                        go_roundw
                        case rel => exact ⟨_, j + 1, _, rfl, by go_num, by omega, by rw [List.length_append]; simp; omega, HF.out.more (Nat.le_trans (by omega) HKJ.out)⟩
                        case measure => simp [intOf]; omega
                  | false =>
                    go_wp2_with fail
                    refine (HI.out hpos _ (kj + 3) HS7.out.db (by omega)).mono ?_
                    rintro e w4 ⟨kd4, p3, p4, p5, rfl, hd4, ho4⟩
                    have HSa := Lib.hid (HS7.out.step hd4 ho4)
                    clear hd4 ho4 HS7
                    go_wp2_with (at_builtin; refine wpList_append_lies _ rfl _ _ 25 rfl w.heap.size 51 i0 _ 6 72 Tryd.underlying25 hi hz0 hz1 hz2 rfl (by decide) _ l.length _ rfl (HSa.out.alloc _).own _ 1 1 [.int .i64 kd4, .string ⟨#[]⟩, .slice none 0 0, .pointer p3, .pointer p4, .pointer p5] rfl rfl (World.news_of_block (heap_alloc_new _ _)) (by intro u hu; simp at hu; rcases hu with rfl | rfl | rfl | rfl | rfl | rfl <;> rfl) (by decide) HM.out.1 HM.out.2 (Nat.le_trans HSa.out.only.size (by simp)) _ rfl ?_)
                    intro g1 cap w9 hown9 hg9 hat9 _
                    have HF := Lib.hid (WS.append (p := ⟨kd4, ⟨#[]⟩, .slice none 0 0, p3, p4, p5, []⟩) (HSa.out.alloc _) (GoodP.plain kd4 ⟨#[]⟩ p3 p4 p5 (by decide)) hown9 hg9 (hat9.imp id fun e => e.trans (by simp)))
                    clear hown9 hg9 hat9
                    go_wp2_with fail
                    go_roundw
                    case rel => exact ⟨_, j + 1, _, rfl, by go_num, by omega, by rw [List.length_append]; simp; omega, HF.out.more (Nat.le_trans (by omega) HKJ.out)⟩
                    case measure => simp [intOf]; omega
    · go_wp2_with fail
      go_ret
      have hj3 : j * (3 * C + 30) ≤ 3 * (3 * C + 30) := Nat.mul_le_mul_right _ (by omega)
      exact ⟨_, l, rfl, by omega, HS.out.more (by omega)⟩

end Go.Proofs.YtbgmjmooifjhjaaDoor
