/- SplitMatches, the reference: divide. -/
import Derived.Test.YtbgmjmooifjhjaaDoorSplitH
import Derived.Laws.EntriesVeiled
namespace Go.Proofs.YtbgmjmooifjhjaaDoor
open Go.RowKit

theorem rfieldInfo : (Tryd.prog.info? 62).map (fun i => (i.zero, i.size, i.bytes)) = some (some (.slice none 0 0), 1, 24) := by kernel_rfl
theorem one_cell (w : World) (x : Value) (t : TypeId) : (w.alloc (.cells #[x] t)).cell? ⟨w.heap.size, 0, none⟩ = some x := by
  have hh := heap_alloc_new w (.cells #[x] t)
  unfold World.cell?
  dsimp only
  rw [hh]
  rfl
theorem RBx.new (w : World) (v : Value) (F : ByteArray) (t1 t2 t3 : TypeId) : RBx (((w.alloc (.cells #[v] t1)).alloc (.cells #[.string F] t2)).alloc (.cells #[.func (.func 37) #[] #[.pointer (some ⟨w.heap.size, 0, none⟩), .pointer (some ⟨w.heap.size + 1, 0, none⟩)]] t3)) w.heap.size v F := by
  have b1 : Below (w.alloc (.cells #[v] t1)).heap.size (w.alloc (.cells #[v] t1)) ((w.alloc (.cells #[v] t1)).alloc (.cells #[.string F] t2)) := (Below.refl _ _).alloc (Nat.le_refl _) _
  have b2 := fun o => (Below.refl _ ((w.alloc (.cells #[v] t1)).alloc (.cells #[.string F] t2))).alloc (Nat.le_refl _) o
  have s1 : (w.alloc (.cells #[v] t1)).heap.size = w.heap.size + 1 := by simp
  have s2 : ((w.alloc (.cells #[v] t1)).alloc (.cells #[.string F] t2)).heap.size = w.heap.size + 2 := by simp
  refine ⟨?_, ?_, ?_, by simp⟩
  · exact ((b2 _).cell (p := ⟨w.heap.size, 0, none⟩) (by rw [s2]; show w.heap.size < _; omega)).trans ((b1.cell (p := ⟨w.heap.size, 0, none⟩) (by rw [s1]; show w.heap.size < _; omega)).trans (one_cell w v t1))
  · refine ((b2 _).cell (p := ⟨w.heap.size + 1, 0, none⟩) (by rw [s2]; show w.heap.size + 1 < _; omega)).trans ?_
    have := one_cell (w.alloc (.cells #[v] t1)) (.string F) t2
    rw [s1] at this
    exact this
  · have := one_cell ((w.alloc (.cells #[v] t1)).alloc (.cells #[.string F] t2)) (.func (.func 37) #[] #[.pointer (some ⟨w.heap.size, 0, none⟩), .pointer (some ⟨w.heap.size + 1, 0, none⟩)]) t3
    rw [s2] at this
    exact this

set_option maxRecDepth 100000 in
set_option maxHeartbeats 3200000 in
theorem divide_some (T : List UInt8) (v : Value) (F : ByteArray) (w : World) (hv : ML m2 w v T) (hT : T.length ≤ 1000000000) (hT0 : 0 < T.length) :
    Calls Tryd.prog 22 #[v, .string F] w fun e w' => ∃ vo vs, e = .returned vo ∧ w'.ownsRow w.heap.size 62 1 vo vs.length vs ∧ FLs m2 w' vs (divL (inL (blankF F.data.toList)) (inL (wideF F.data.toList)) [] T) ∧ vs.length ≤ T.length + 1 ∧ Below w.heap.size w w' := by
  obtain ⟨ANS, hANS⟩ : ∃ ANS, divL (inL (blankF F.data.toList)) (inL (wideF F.data.toList)) [] T = ANS := ⟨_, rfl⟩
  rw [hANS]
  obtain ⟨A, c, rfl, hc, hz⟩ := id hv
  obtain ⟨b, off, rfl, hbl, hcell⟩ := hz hT0
  have HCL := Lib.hid hcell
  clear hcell hz
  have HV := Lib.hid hv
  have HA0 := Lib.hid hANS
  obtain ⟨i0, hi0, hz0, hz1, hz2⟩ := info_parts rfieldInfo
  obtain ⟨i1, hi1, hy0, hy1, hy2⟩ := info_parts markInfo
  clear hv hANS
  go_enter Tryd.func22, Tryd.ntmps22
  go_wp2_with fail
  have HR0 := Lib.hid (RBx.new w (.slice (some ⟨b, off, none⟩) T.length c) F 62 9 102)
  have HB0 := Lib.hid ((((Below.refl _ w).alloc (Nat.le_refl _) (.cells #[.slice (some ⟨b, off, none⟩) T.length c] 62)).alloc (by simp) (.cells #[.string F] 9)).alloc (by simp; omega) (.cells #[.func (.func 37) #[] #[.pointer (some ⟨w.heap.size, 0, none⟩), .pointer (some ⟨w.heap.size + 1, 0, none⟩)]] 102))
  generalize hw1 : ((w.alloc (.cells #[.slice (some ⟨b, off, none⟩) T.length c] 62)).alloc (.cells #[.string F] 9)).alloc (.cells #[.func (.func 37) #[] #[.pointer (some ⟨w.heap.size, 0, none⟩), .pointer (some ⟨w.heap.size + 1, 0, none⟩)]] 102) = w1 at *
  clear hw1
  have HSp := Lib.hid (fun W (hb : Below w1.heap.size w1 W) k => rsep_any T (.slice (some ⟨b, off, none⟩) T.length c) F k w.heap.size W (HV.out.keep (HB0.out.trans (hb.mono HB0.out.size))) (HR0.out.keep hb))
  have HBl := Lib.hid (fun W (hb : Below w1.heap.size w1 W) k => rblank_any T (.slice (some ⟨b, off, none⟩) T.length c) F k w.heap.size W (HV.out.keep (HB0.out.trans (hb.mono HB0.out.size))) (HR0.out.keep hb))
  go_loopw [7, 8, 9] (fun s7 s8 s9 wr => ∃ (vo : Value) (vs : List Value) (fs : List (List UInt8)) (vp : Value) (part : List UInt8) (i B : Nat), vo = s7 ∧ vp = s8 ∧ s9 = .int .i64 (i : Int) ∧ i ≤ T.length ∧ vs.length ≤ i ∧ part.length ≤ i ∧
    Hid (RS w1 wr vo vs fs vp part B) ∧ Hid (fs ++ divL (inL (blankF F.data.toList)) (inL (wideF F.data.toList)) part (T.drop i) = ANS)) (fun _ _ s9 _ => T.length - (intOf s9).toNat)
  case atStart => exact ⟨.slice none 0 0, [], [], .slice none 0 0, [], 0, w1.heap.size, rfl, rfl, rfl, Nat.zero_le _, Nat.zero_le _, Nat.zero_le _, ⟨World.ownsRow_nil _ _ _ _, rfl, fun j h => by simp at h, World.ownsRow_nil _ _ _ _, Nat.le_refl _, Nat.le_refl _, Below.refl _ _⟩, by rw [List.nil_append]; exact HA0.out⟩
  case round =>
    obtain ⟨vo, vs, fs, vp, part, i, B, rfl, rfl, rfl, hi, hvl, hpl, HS, HE⟩ := hrel
    obtain ⟨pA, pc, rfl⟩ := own_form HS.out.part
    generalize hpn : part.length = pn at HS hpl ⊢
    have HPN := Lib.hid hpn
    clear hpn
    have HRx := Lib.hid (HR0.out.keep HS.out.below)
    have cL := HRx.out.l
    have cS := HRx.out.s
    have lS := HRx.out.lt
    by_cases hlt : i < T.length
    · go_wp2_with fail
      refine (HSp.out _ (by exact HS.out.below) i).mono ?_
      rintro e w2 ⟨rfl, hb2⟩
      have HS2 := Lib.hid (HS.out.kept hb2)
      have HRx2 := Lib.hid (HRx.out.keep hb2)
      clear hb2 cL cS lS HS HRx
      have cL := HRx2.out.l
      have cS := HRx2.out.s
      have lS := HRx2.out.lt
      cases hq : atB T i (inL F.data.toList) with
      | false =>
        have hor := hq
        rw [atB_or, Bool.or_eq_false_iff] at hor
        have hE2 : fs ++ divL (inL (blankF F.data.toList)) (inL (wideF F.data.toList)) (part ++ [T[i]]) (T.drop (i + 1)) = ANS := by
          have h1 := HE.out
          rw [atB_at hlt, atB_at hlt] at hor
          rw [drop_at hlt, divL_put _ (by rw [hor.1, hor.2]; simp)] at h1
          exact h1
        have HE2 := Lib.hid hE2
        have hplp : part.length ≤ i := by rw [HPN.out]; exact hpl
        have hbw := HB0.out.trans (HS2.out.below.mono HB0.out.size)
        have h1 := (hbw.cell (p := ⟨b, off + i * 2, none⟩) hbl).trans (HCL.out i hlt).1
        have h2 := (hbw.cell (p := ⟨b, off + i * 2 + 1, none⟩) hbl).trans (HCL.out i hlt).2
        have hbr := Nat.lt_of_lt_of_le hbl hbw.size
        clear hbw
        clear hE2 hor hq HE
        generalize T[i] = ch at *
        have HSa := Lib.hid (HS2.out.alloc (.cells #[.int .u8 (ch.toNat : Int), m2] 66))
        have HN := Lib.hid (new_two w2 (.int .u8 (ch.toNat : Int)) m2 66)
        go_wp2_with (at_builtin; refine wpList_append_own _ rfl _ _ 62 rfl B 66 i1 (.agg #[.int .u8 0, .int .u8 0]) 2 2 Tryd.underlying62 hi1 hy0 hy1 hy2 rfl (by decide) _ part.length _ rfl HSa.out.part ⟨w2.heap.size, 0, none⟩ 1 1 [.int .u8 (ch.toNat : Int), m2] rfl rfl HN.out (fun u hu => by simp at hu; rcases hu with rfl | rfl <;> rfl) ?c3 ?c4 ?c5 ?_)
        case c3 => unfold maxLen; omega
        case c4 => omega
        case c5 => have h3 := HSa.out.hi; exact h3
        intro v6 w6 hown6 hg6 _
        have HS6 := Lib.hid (HSa.out.put (c := ch) hg6 hown6)
        clear hown6 hg6 h1 h2 hbr cL cS lS
        go_wp2_with fail
        go_roundw
        case rel => exact ⟨vo, vs, fs, v6, part ++ [ch], i + 1, B, rfl, rfl, by go_num, by omega, by omega, (by simp; omega), HS6, HE2⟩
        case measure => simp [intOf]; omega
      | true =>
        have hor : atB T i (inL (blankF F.data.toList)) = true ∨ atB T i (inL (wideF F.data.toList)) = true := by
          rw [atB_or, Bool.or_eq_true] at hq; exact hq
        have HOR := Lib.hid hor
        clear hor hq cL cS lS
        go_wp2_with fail
        go_loopw [9] (fun s9 wx => ∃ k : Nat, s9 = .int .i64 (k : Int) ∧ i ≤ k ∧ k ≤ T.length ∧ Hid ((T.drop k).dropWhile (inL (blankF F.data.toList)) = (T.drop i).dropWhile (inL (blankF F.data.toList))) ∧ Hid (RS w1 wx vo vs fs (.slice pA pn pc) part B)) (fun s9 _ => T.length - (intOf s9).toNat)
        case atStart => exact ⟨i, rfl, Nat.le_refl _, hi, rfl, HS2.out⟩
        case round =>
          obtain ⟨k, rfl, hk1, hk2, HD, HS3⟩ := hrel
          have HR3 := Lib.hid (HR0.out.keep HS3.out.below)
          have cL := HR3.out.l
          have cS := HR3.out.s
          have lS := HR3.out.lt
          cases hb : atB T k (inL (blankF F.data.toList)) with
          | true =>
            have hk3 := atB_lt hb
            have HD4 := Lib.hid ((dropW_step hb).trans HD.out)
            go_wp2_with fail
            refine (HBl.out _ (by exact HS3.out.below) k).mono ?_
            rintro e w4 ⟨rfl, hb4⟩
            have HS4 := Lib.hid (HS3.out.kept hb4)
            rw [hb]
            clear hb hb4 cL cS lS
            go_wp2_with fail
            go_roundw
            case rel => exact ⟨k + 1, by go_num, by omega, by omega, HD4, HS4⟩
            case measure => simp [intOf]; omega
          | false =>
            have HK := Lib.hid ((dropW_stop hb).symm.trans HD.out)
            have hsw : atB T k (inL F.data.toList) = atB T k (inL (wideF F.data.toList)) := by rw [atB_or, hb]; rfl
            have HSW := Lib.hid hsw
            go_wp2_with fail
            refine (HBl.out _ (by exact HS3.out.below) k).mono ?_
            rintro e w4 ⟨rfl, hb4⟩
            have HS4 := Lib.hid (HS3.out.kept hb4)
            have HR4 := Lib.hid (HR3.out.keep hb4)
            rw [hb]
            clear hb hb4 cL cS lS hsw HD
            have cL := HR4.out.l
            have cS := HR4.out.s
            have lS := HR4.out.lt
            go_wp2_with fail
            refine (HSp.out _ (by exact HS4.out.below) k).mono ?_
            rintro e w5 ⟨rfl, hb5⟩
            have HS5 := Lib.hid (HS4.out.kept hb5)
            have HR5 := Lib.hid (HR4.out.keep hb5)
            rw [HSW.out]
            clear hb5 cL cS lS
            have cL := HR5.out.l
            have cS := HR5.out.s
            have lS := HR5.out.lt
            go_upto_if 37 with fail
            go_cut [9, 10] (fun s9 s10 wx => ∃ (k2 : Nat) (hd : Bool), s9 = .int .i64 (k2 : Int) ∧ s10 = .bool hd ∧ k2 ≤ T.length ∧ hd = !(sepE (inL (blankF F.data.toList)) (inL (wideF F.data.toList)) (T.drop i)).2 ∧ T.drop k2 = (sepE (inL (blankF F.data.toList)) (inL (wideF F.data.toList)) (T.drop i)).1 ∧ RS w1 wx vo vs fs (.slice pA pn pc) part B)
            case first =>
              cases hw : atB T k (inL (wideF F.data.toList)) with
              | false =>
                have HG := Lib.hid (sepE_stay (isB := inL (blankF F.data.toList)) HK.out hw)
                clear hw
                go_wp2_with fail
                go_meet
                case rel => exact ⟨k, false, rfl, rfl, hk2, by rw [HG.out]; rfl, by rw [HG.out], HS5.out⟩
              | true =>
                have HG := Lib.hid (sepE_go (isB := inL (blankF F.data.toList)) HK.out hw)
                have hk3 := atB_lt hw
                clear hw
                go_wp2_with fail
                go_loopw [9] (fun s9 wx => ∃ k2 : Nat, s9 = .int .i64 (k2 : Int) ∧ k + 1 ≤ k2 ∧ k2 ≤ T.length ∧ Hid ((T.drop k2).dropWhile (inL (blankF F.data.toList)) = (T.drop (k + 1)).dropWhile (inL (blankF F.data.toList))) ∧ Hid (RS w1 wx vo vs fs (.slice pA pn pc) part B)) (fun s9 _ => T.length - (intOf s9).toNat)
                case atStart => exact ⟨k + 1, by go_num, Nat.le_refl _, by omega, rfl, HS5.out⟩
                case round =>
                  obtain ⟨k2, rfl, hk4, hk5, HD7, HS7⟩ := hrel
                  have HR7 := Lib.hid (HR0.out.keep HS7.out.below)
                  clear cL cS lS
                  have cL := HR7.out.l
                  have cS := HR7.out.s
                  have lS := HR7.out.lt
                  cases hb : atB T k2 (inL (blankF F.data.toList)) with
                  | true =>
                    have hk6 := atB_lt hb
                    have HD8 := Lib.hid ((dropW_step hb).trans HD7.out)
                    go_wp2_with fail
                    refine (HBl.out _ (by exact HS7.out.below) k2).mono ?_
                    rintro e w8 ⟨rfl, hb8⟩
                    have HS8 := Lib.hid (HS7.out.kept hb8)
                    rw [hb]
                    clear hb hb8 cL cS lS
                    go_wp2_with fail
                    go_roundw
                    case rel => exact ⟨k2 + 1, by go_num, by omega, by omega, HD8, HS8⟩
                    case measure => simp [intOf]; omega
                  | false =>
                    have HK8 := Lib.hid ((dropW_stop hb).symm.trans HD7.out)
                    go_wp2_with fail
                    refine (HBl.out _ (by exact HS7.out.below) k2).mono ?_
                    rintro e w8 ⟨rfl, hb8⟩
                    have HS8 := Lib.hid (HS7.out.kept hb8)
                    rw [hb]
                    clear hb hb8 cL cS lS
                    go_wp2_with fail
                    go_meet
                    case rel => exact ⟨k2, true, rfl, rfl, hk5, by rw [HG.out]; rfl, by rw [HG.out, HK8.out], HS8.out⟩
            case rest =>
              obtain ⟨k2, hd, rfl, rfl, hk4, hhd, hdr, hs6⟩ := hcut
              obtain ⟨wd, hwd⟩ : ∃ wd, wd = wc := ⟨_, rfl⟩
              subst hwd
              have HS6 := Lib.hid hs6
              have hik : i < k2 := sepE_at hlt HOR.out hdr
              have HE6 := Lib.hid (show fs ++ ((if hd = false ∧ part = [] then [] else [part]) ++ divL (inL (blankF F.data.toList)) (inL (wideF F.data.toList)) [] (T.drop k2)) = ANS by
                have h1 := HE.out
                rw [divL_at part hlt HOR.out, ← hdr] at h1
                rw [hhd]
                cases hb2 : (sepE (inL (blankF F.data.toList)) (inL (wideF F.data.toList)) (T.drop i)).2 <;> rw [hb2] at h1 <;> simpa using h1)
              obtain ⟨bq, hbq⟩ : ∃ bq, bq = (decide (part ≠ []) || hd) := ⟨_, rfl⟩
              have HQ := Lib.hid hbq
              clear hhd hdr hs6 hbq HE HK HSW cL cS lS
              go_upto_region 18 with fail
              go_cut [50] (fun s50 wx => s50 = .bool bq ∧ RS w1 wx vo vs fs (.slice pA pn pc) part B)
              case first =>
                by_cases hp : pn = 0
                · have hpe : part = [] := List.length_eq_zero_iff.1 (by rw [HPN.out]; exact hp)
                  have hbe : bq = hd := by rw [HQ.out, hpe]; rfl
                  have HBE := Lib.hid hbe
                  clear hpe hbe
                  subst hp
                  go_wp2_with fail
                  go_meet
                  case rel => exact ⟨by rw [HBE.out], HS6.out⟩
                · have hpe : part ≠ [] := fun e => hp (by rw [← HPN.out, e]; rfl)
                  have hbe : bq = true := by rw [HQ.out, decide_eq_true hpe]; rfl
                  have HBE := Lib.hid hbe
                  have hp1 : 0 < pn := by omega
                  clear hpe hbe
                  go_wp2_with fail
                  go_meet
                  case rel => exact ⟨by rw [HBE.out], HS6.out⟩
              case rest =>
                obtain ⟨rfl, hs7⟩ := hcut
                obtain ⟨wf, hwf⟩ : ∃ wf, wf = wc := ⟨_, rfl⟩
                subst hwf
                have HS7 := Lib.hid hs7
                clear hs7 HS6
                cases bq with
                | false =>
                  have HE7 := Lib.hid (show fs ++ divL (inL (blankF F.data.toList)) (inL (wideF F.data.toList)) [] (T.drop k2) = ANS by
                    have h1 := HE6.out
                    have hq := HQ.out.symm
                    rw [Bool.or_eq_false_iff] at hq
                    rw [if_pos ⟨hq.2, by simpa using hq.1⟩, List.nil_append] at h1
                    exact h1)
                  go_wp2_with fail
                  exact ⟨⟨vo, vs, fs, .slice none 0 0, [], k2, B, rfl, rfl, rfl, hk4, by omega, Nat.zero_le _, Lib.hid HS7.out.drop, HE7⟩, by simp [intOf]; omega⟩
                | true =>
                  have HE7 := Lib.hid (show (fs ++ [part]) ++ divL (inL (blankF F.data.toList)) (inL (wideF F.data.toList)) [] (T.drop k2) = ANS by
                    have h1 := HE6.out
                    have hq := HQ.out
                    rw [if_neg (by intro hh; rw [hh.1, hh.2] at hq; simp at hq)] at h1
                    rw [List.append_assoc]; exact h1)
                  have HSa := Lib.hid (HS7.out.alloc (.cells #[.slice pA pn pc] 62))
                  have HN := Lib.hid (new_one wf (.slice pA pn pc) 62)
                  have HO1 := Lib.hid (show ∀ u ∈ [Value.slice pA pn pc], u.oneCell' = true from fun u hu => by simp at hu; subst hu; rfl)
                  have hlo := HSa.out.lo
                  have hhi := HSa.out.hi
                  go_wp2_with (at_builtin; refine wpList_append_own _ rfl _ _ 60 rfl w1.heap.size 62 i0 (.slice none 0 0) 1 24 Tryd.underlying60 hi0 hz0 hz1 hz2 rfl (by decide) vo vs.length vs rfl HSa.out.out ⟨wf.heap.size, 0, none⟩ 1 1 [.slice pA pn pc] rfl rfl HN.out HO1.out ?c3 ?c4 ?c5 ?_)
                  case c3 => unfold maxLen; omega
                  case c4 => omega
                  case c5 => exact Nat.le_trans hlo hhi
                  intro v8 w8 hown8 hg8 _
                  have HS8 := Lib.hid (HSa.out.hand hg8 hown8)
                  clear hown8 hg8 hlo hhi
                  go_wp2_with fail
                  exact ⟨⟨v8, vs ++ [Value.slice pA pn pc], fs ++ [part], .slice none 0 0, [], k2, w8.heap.size, rfl, rfl, rfl, hk4, (by simp; omega), Nat.zero_le _, HS8, HE7⟩, by simp [intOf]; omega⟩
    · have hin : i = T.length := by omega
      have HE5 := Lib.hid (show fs ++ (if part = [] then [] else [part]) = ANS by
        have h1 := HE.out
        rw [hin, List.drop_length, divL_nil] at h1
        exact h1)
      have HBe := Lib.hid (HB0.out.trans (HS.out.below.mono HB0.out.size))
      clear HE
      by_cases hp : pn = 0
      · have hpe : part = [] := List.length_eq_zero_iff.1 (by rw [HPN.out]; exact hp)
        have hE : fs = ANS := by have h1 := HE5.out; rw [if_pos hpe, List.append_nil] at h1; exact h1
        have HEE := Lib.hid hE
        clear hpe hE
        subst hp
        go_wp2_with fail
        go_ret
        exact ⟨vo, vs, rfl, own_base HS.out.out HB0.out.size, by rw [← HEE.out]; exact HS.out.fls, by omega, HBe.out⟩
      · have hpe : part ≠ [] := fun e => hp (by rw [← HPN.out, e]; rfl)
        have hE : fs ++ [part] = ANS := by have h1 := HE5.out; rw [if_neg hpe] at h1; exact h1
        have HEE := Lib.hid hE
        have hp1 : 0 < pn := by omega
        clear hpe hE
        have HSa := Lib.hid (HS.out.alloc (.cells #[.slice pA pn pc] 62))
        have HN := Lib.hid (new_one wr (.slice pA pn pc) 62)
        have HO1 := Lib.hid (show ∀ u ∈ [Value.slice pA pn pc], u.oneCell' = true from fun u hu => by simp at hu; subst hu; rfl)
        have hlo := HSa.out.lo
        have hhi := HSa.out.hi
        go_wp2_with (at_builtin; refine wpList_append_own _ rfl _ _ 60 rfl w1.heap.size 62 i0 (.slice none 0 0) 1 24 Tryd.underlying60 hi0 hz0 hz1 hz2 rfl (by decide) vo vs.length vs rfl HSa.out.out ⟨wr.heap.size, 0, none⟩ 1 1 [.slice pA pn pc] rfl rfl HN.out HO1.out ?c3 ?c4 ?c5 ?_)
        case c3 => unfold maxLen; omega
        case c4 => omega
        case c5 => exact Nat.le_trans hlo hhi
        intro v8 w8 hown8 hg8 _
        have HS8 := Lib.hid (HSa.out.hand hg8 hown8)
        have HB8 := Lib.hid (HB0.out.trans (HS8.out.below.mono HB0.out.size))
        clear hown8 hg8 hlo hhi
        go_wp2_with fail
        go_ret
        exact ⟨v8, vs ++ [Value.slice pA pn pc], rfl, own_base HS8.out.out HB0.out.size, by rw [← HEE.out]; exact HS8.out.fls, by simp; omega, HB8.out⟩

end Go.Proofs.YtbgmjmooifjhjaaDoor
