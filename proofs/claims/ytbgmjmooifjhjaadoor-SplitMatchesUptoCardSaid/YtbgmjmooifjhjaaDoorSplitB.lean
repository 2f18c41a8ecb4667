/- SplitMatches, the program's fields: a text between two breaks divided. -/
import Derived.Test.YtbgmjmooifjhjaaDoorSplitA
import Derived.StillTailTactics
import Derived.Deep.DeepCutAuto
namespace Go.Proofs.YtbgmjmooifjhjaaDoor
open Go.RowKit

theorem fieldInfo : (Tryd.prog.info? 57).map (fun i => (i.zero, i.size, i.bytes)) = some (some (.slice none 0 0), 1, 24) := by kernel_rfl
/-- the bytes of a part -/
def partL (T : List UInt8) (s i : Nat) : List UInt8 := (T.drop s).take (i - s)
theorem partL_step {T : List UInt8} {s i : Nat} (hs : s ≤ i) (hi : i < T.length) : partL T s (i + 1) = partL T s i ++ [T[i]] := by
  unfold partL
  have h1 : i + 1 - s = (i - s) + 1 := by omega
  rw [h1, List.take_add_one, List.getElem?_drop, show s + (i - s) = i by omega, List.getElem?_eq_getElem hi]
  rfl
theorem partL_none (T : List UInt8) (i : Nat) : partL T i i = [] := by unfold partL; rw [Nat.sub_self]; rfl
/-- the words of the place at a separator -/
theorem divL_at {isB isW : UInt8 → Bool} {T : List UInt8} {i : Nat} (part : List UInt8) (hi : i < T.length) (h : atB T i isB = true ∨ atB T i isW = true) :
    divL isB isW part (T.drop i) = (if (sepE isB isW (T.drop i)).2 = true ∧ part = [] then [] else [part]) ++ divL isB isW [] (sepE isB isW (T.drop i)).1 := by
  rw [atB_at hi, atB_at hi] at h
  rw [drop_at hi, divL_sep part h]
theorem sepE_at {isB isW : UInt8 → Bool} {T : List UInt8} {i e : Nat} (hi : i < T.length) (h : atB T i isB = true ∨ atB T i isW = true) (he : T.drop e = (sepE isB isW (T.drop i)).1) : i < e := by
  rw [atB_at hi, atB_at hi] at h
  have := sepE_lt (r := T.drop (i + 1)) h
  rw [← drop_at hi, ← he, List.length_drop, List.length_drop] at this
  omega
theorem divL_on {isB isW : UInt8 → Bool} {T : List UInt8} {s i : Nat} (hs : s ≤ i) (hi : i < T.length) (h1 : atB T i isB = false) (h2 : atB T i isW = false) : divL isB isW (partL T s i) (T.drop i) = divL isB isW (partL T s (i + 1)) (T.drop (i + 1)) := by
  rw [atB_at hi] at h1 h2
  rw [drop_at hi, divL_put _ (by rw [h1, h2]; simp), partL_step hs hi]

/-- what is written, in its own row -/
def OutW (e : TypeId) (w1 : World) (vo : Value) (vs : List Value) (wx : World) : Prop := wx.ownsRow w1.heap.size e 1 vo vs.length vs ∧ Below w1.heap.size w1 wx
theorem OutW.keep {e : TypeId} {w1 wx w' : World} {vo : Value} {vs : List Value} (h : OutW e w1 vo vs wx) (hb : Below wx.heap.size wx w') : OutW e w1 vo vs w' :=
  ⟨h.1.kept (row := none) ⟨hb.os, hb.tape, hb.output, hb.size, fun k hk _ => hb.block k hk⟩ (by cases vo.ownBlock <;> simp), h.2.trans (hb.mono h.2.size)⟩
theorem OutW.nil (e : TypeId) (w1 : World) : OutW e w1 (.slice none 0 0) [] w1 := ⟨World.ownsRow_nil _ _ _ _, Below.refl _ _⟩
theorem OutW.grown {e : TypeId} {w1 wx w' : World} {vo v' : Value} {vs us : List Value} (h : OutW e w1 vo vs wx) (o : Obj) (hg : (wx.alloc o).grownBy w' vo.ownBlock) (ho : w'.ownsRow w1.heap.size e 1 v' (vs.length + us.length) (vs ++ us)) : OutW e w1 v' (vs ++ us) w' :=
  ⟨by rw [List.length_append]; exact ho, (h.2.alloc h.2.size o).grown hg (by have := h.2.size; simp; omega) (fun g hg => (h.1.lt g hg).1)⟩
theorem own_base {w : World} {B B' e s n : Nat} {v : Value} {xs : List Value} (h : w.ownsRow B e s v n xs) (hB : B' ≤ B) : w.ownsRow B' e s v n xs := by
  refine ⟨h.1, ?_⟩
  rcases h.2 with hn | ⟨g, c, cur, rfl, hb, rest⟩
  · exact .inl hn
  · exact .inr ⟨g, c, cur, rfl, Nat.le_trans hB hb, rest⟩
theorem new_one (w : World) (u : Value) (t : TypeId) : ∀ j z, ([u] : List Value)[j]? = some z → (w.alloc (.cells #[u] t)).cell? ((⟨w.heap.size, 0, none⟩ : Addr).add j) = some z := fun j z hz => by
  have hh := heap_alloc_new w (.cells #[u] t)
  match j, hz with
  | 0, hz => rw [← hz, WideShapes.add_plain]; unfold World.cell?; dsimp only; rw [hh]; rfl
  | j + 1, hz => simp at hz

set_option maxRecDepth 100000 in
set_option maxHeartbeats 3200000 in
theorem fields_any (T : List UInt8) (v : Value) (x y : ByteArray) (w : World) (hv : ML m0 w v T) (hT : T.length ≤ 1000000000) :
    Calls Tryd.prog 34 #[dvV v x y] w fun e w' => ∃ vo vs, e = .returned vo ∧ w'.ownsRow w.heap.size 57 1 vo vs.length vs ∧ FLs m0 w' vs (divL (inL x.data.toList) (inL y.data.toList) [] T) ∧ vs.length ≤ T.length + 1 ∧ Below w.heap.size w w' := by
  obtain ⟨ANS, hANS⟩ : ∃ ANS, divL (inL x.data.toList) (inL y.data.toList) [] T = ANS := ⟨_, rfl⟩
  rw [hANS]
  obtain ⟨A, c, rfl, hc, hz⟩ := id hv
  clear hz
  have HV := Lib.hid hv
  have HI := Lib.hid (fun W (hb : Below w.heap.size w W) set k => is_any T (.slice A T.length c) x y set k W (hv.keep hb))
  have HSep := Lib.hid (fun W (hb : Below w.heap.size w W) k (hk : k ≤ T.length) => sep_any T (.slice A T.length c) x y k W (hv.keep hb) hk hT)
  have HSo := Lib.hid (fun W (hb : Below w.heap.size w W) u part (hu : ML m0 w u part) => some_any part u W (hu.keep hb))
  have HA0 := Lib.hid hANS
  obtain ⟨i0, hi0, hz0, hz1, hz2⟩ := info_parts fieldInfo
  clear hv hANS
  go_enter Tryd.func34, Tryd.ntmps34
  go_wp2_with fail
  have HD0 := Lib.hid (DV.new w (.slice A T.length c) x y 93)
  have HB0 := Lib.hid ((Below.refl _ w).alloc (Nat.le_refl _) (.cells #[.slice A T.length c, .string x, .string y] 93))
  generalize w.alloc (.cells #[.slice A T.length c, .string x, .string y] 93) = w1 at *
  go_loopw [3, 4, 5] (fun so ss si wr => ∃ (vo : Value) (vs : List Value) (fs : List (List UInt8)) (s i : Nat), vo = so ∧ ss = .int .i64 (s : Int) ∧ si = .int .i64 (i : Int) ∧ s ≤ i ∧ i ≤ T.length ∧ vs.length ≤ i ∧
    Hid (OutW 57 w1 vo vs wr) ∧ Hid (FLs m0 w vs fs) ∧ Hid (fs ++ divL (inL x.data.toList) (inL y.data.toList) (partL T s i) (T.drop i) = ANS)) (fun _ _ si _ => T.length - (intOf si).toNat)
  case atStart => exact ⟨.slice none 0 0, [], [], 0, 0, rfl, rfl, rfl, Nat.le_refl _, Nat.zero_le _, Nat.zero_le _, OutW.nil _ _, FLs.nil _ _, by rw [List.nil_append]; exact HA0.out⟩
  case round =>
    obtain ⟨vo, vs, fs, s, i, rfl, rfl, rfl, hsi, hi, hvl, HO, HF, HE⟩ := hrel
    have HBw := Lib.hid (HB0.out.trans (HO.out.2.mono HB0.out.size))
    obtain ⟨cD, lD⟩ := HD0.out.keep HO.out.2
    by_cases hlt : i < T.length
    · go_upto_region 5 with fail
      go_cut [28] (fun s28 wx => s28 = .bool (!(atB T i (inL x.data.toList) || atB T i (inL y.data.toList))) ∧ OutW 57 w1 vo vs wx)
      case first =>
        cases b1 : atB T i (inL x.data.toList) with
        | false =>
          go_wp2_with fail
          refine (HI.out _ (by exact HBw.out) _ _).mono ?_
          rintro e w2 ⟨rfl, hb2⟩
          have HO2 := Lib.hid (HO.out.keep hb2)
          rw [b1]
          clear hb2 cD lD
          obtain ⟨cD, lD⟩ := HD0.out.keep HO2.out.2
          go_wp2_with fail
          refine (HI.out _ (by exact HB0.out.trans (HO2.out.2.mono HB0.out.size)) _ _).mono ?_
          rintro e w3 ⟨rfl, hb3⟩
          have HO3 := Lib.hid (HO2.out.keep hb3)
          clear hb3 cD lD
          go_wp2_with fail
          go_meet
          case rel => exact ⟨by rw [b1]; rfl, HO3.out⟩
        | true =>
          go_wp2_with fail
          refine (HI.out _ (by exact HBw.out) _ _).mono ?_
          rintro e w2 ⟨rfl, hb2⟩
          have HO2 := Lib.hid (HO.out.keep hb2)
          rw [b1]
          clear hb2 cD lD
          go_wp2_with fail
          go_meet
          case rel => exact ⟨by rw [b1]; rfl, HO2.out⟩
      case rest =>
        obtain ⟨rfl, ho2⟩ := hcut
        have HO2 := Lib.hid ho2
        clear ho2 cD lD
        obtain ⟨cD, lD⟩ := HD0.out.keep HO2.out.2
        cases hsep : (atB T i (inL x.data.toList) || atB T i (inL y.data.toList)) with
        | false =>
          have HE2 := Lib.hid (show fs ++ divL (inL x.data.toList) (inL y.data.toList) (partL T s (i + 1)) (T.drop (i + 1)) = ANS by
            rw [Bool.or_eq_false_iff] at hsep
            rw [← divL_on hsi hlt hsep.1 hsep.2]; exact HE.out)
          go_wp2_with fail
          refine ⟨⟨vo, vs, fs, s, i + 1, rfl, rfl, by go_num, by omega, by omega, by omega, HO2.out, HF.out, HE2.out⟩, by simp [intOf]; omega⟩
        | true =>
          rw [Bool.or_eq_true] at hsep
          have HSP := Lib.hid hsep
          clear hsep
          go_wp2_with fail
          refine (HSep.out _ (by exact HB0.out.trans (HO2.out.2.mono HB0.out.size)) i hi).mono ?_
          rintro e w4 ⟨k, rfl, hk1, hk2, hk3, hb4⟩
          have HO4 := Lib.hid (HO2.out.keep hb4)
          have hik : i < k := sepE_at hlt HSP.out hk1
          have HE4 := Lib.hid (show fs ++ ((if (sepE (inL x.data.toList) (inL y.data.toList) (T.drop i)).2 = true ∧ partL T s i = [] then [] else [partL T s i]) ++ divL (inL x.data.toList) (inL y.data.toList) [] (T.drop k)) = ANS by
            rw [hk1, ← divL_at (partL T s i) hlt HSP.out]; exact HE.out)
          clear hk1 hb4 HSP HE HO2 cD lD HO HBw
          generalize (sepE (inL x.data.toList) (inL y.data.toList) (T.drop i)).2 = bl at *
          obtain ⟨cD, lD⟩ := HD0.out.keep HO4.out.2
          have hcs : ¬ c = s := by omega
          have HP := Lib.hid (show ML m0 w (.slice (Option.map (fun x => x.add (s * 2)) A) (i - s) (c - s)) (partL T s i) from HV.out.part hsi hi hcs)
          go_upto_region 9 with fail
          generalize partL T s i = part at *
          generalize Option.map (fun x => x.add (s * 2)) A = A1 at *
          generalize i - s = n1 at *
          generalize c - s = c1 at *
          clear hcs
          obtain ⟨bq, hbq⟩ : ∃ bq, bq = (!bl || decide (part ≠ [])) := ⟨_, rfl⟩
          have HQ := Lib.hid hbq
          clear hbq
          go_cut [47] (fun s47 wx => s47 = .bool bq ∧ OutW 57 w1 vo vs wx)
          case first =>
            cases bl with
            | false =>
              go_wp2_with fail
              go_meet
              case rel => exact ⟨by rw [HQ.out]; rfl, HO4.out⟩
            | true =>
              go_wp2_with fail
              refine (HSo.out _ (by exact HB0.out.trans (HO4.out.2.mono HB0.out.size)) _ part HP.out).mono ?_
              rintro e w5 ⟨rfl, hw5⟩
              subst hw5
              go_wp2_with fail
              go_meet
              case rel => exact ⟨by rw [HQ.out]; simp, HO4.out⟩
          case rest =>
            obtain ⟨rfl, ho5⟩ := hcut
            obtain ⟨wd, hwd⟩ : ∃ wd, wd = wc := ⟨_, rfl⟩
            subst hwd
            have HO5 := Lib.hid ho5
            clear ho5 cD lD HO4
            cases bq with
            | false =>
              have HE5 := Lib.hid (show fs ++ divL (inL x.data.toList) (inL y.data.toList) (partL T k k) (T.drop k) = ANS by
                have h1 := HE4.out
                have hap := HQ.out.symm
                rw [Bool.or_eq_false_iff] at hap
                rw [if_pos ⟨by simpa using hap.1, by simpa using hap.2⟩, List.nil_append] at h1
                rw [partL_none]; exact h1)
              go_wp2_with fail
              refine ⟨⟨vo, vs, fs, k, k, rfl, rfl, rfl, by omega, hk3, by omega, HO5.out, HF.out, HE5.out⟩, by simp [intOf]; omega⟩
            | true =>
              have HE5 := Lib.hid (show (fs ++ [part]) ++ divL (inL x.data.toList) (inL y.data.toList) (partL T k k) (T.drop k) = ANS by
                have h1 := HE4.out
                have hap := HQ.out
                rw [if_neg (by intro hh; rw [hh.1, hh.2] at hap; simp at hap)] at h1
                rw [partL_none, List.append_assoc]; exact h1)
              have HOa := Lib.hid (HO5.out.1.alloc (.cells #[.slice A1 n1 c1] 57))
              have HN := Lib.hid (new_one wd (.slice A1 n1 c1) 57)
              have hu1 := HP.out.one
              go_wp2_with (at_builtin; refine wpList_append_own _ rfl _ _ 55 rfl w1.heap.size 57 i0 (.slice none 0 0) 1 24 Tryd.underlying55 hi0 hz0 hz1 hz2 rfl (by decide) vo vs.length vs rfl HOa.out ⟨wd.heap.size, 0, none⟩ 1 1 [.slice A1 n1 c1] rfl rfl HN.out (fun z hz => by simp at hz; subst hz; exact hu1) ?c3 ?c4 ?c5 ?_)
              case c3 => unfold maxLen; omega
              case c4 => omega
              case c5 => have := HO5.out.2.size; simp; omega
              intro v6 w6 hown6 hg6 _
              have HO6 := Lib.hid (HO5.out.grown (.cells #[.slice A1 n1 c1] 57) hg6 hown6)
              clear hown6 hg6 hu1
              go_wp2_with fail
              refine ⟨⟨v6, vs ++ [Value.slice A1 n1 c1], fs ++ [part], k, k, rfl, rfl, rfl, by omega, hk3, (by simp; omega), HO6, Lib.hid (HF.out.snoc HP.out), HE5⟩, by simp [intOf]; omega⟩
    · have hin : i = T.length := by omega
      have HE5 := Lib.hid (show fs ++ (if partL T s T.length = [] then [] else [partL T s T.length]) = ANS by
        have h1 := HE.out
        rw [hin, List.drop_length, divL_nil] at h1
        exact h1)
      clear HE
      subst hin
      obtain ⟨bq, hbq⟩ : ∃ bq, bq = decide (partL T s T.length ≠ []) := ⟨_, rfl⟩
      have HQ := Lib.hid hbq
      clear hbq
      go_upto_region 12 with fail
      go_cut [9] (fun s9 wx => ∃ A1 n1 c1, s9 = .slice A1 n1 c1 ∧ ML m0 w (.slice A1 n1 c1) (partL T s T.length) ∧ OutW 57 w1 vo vs wx)
      case first =>
        by_cases hcs : c = s
        · have HP := Lib.hid (show ML m0 w (.slice A (T.length - s) 0) (partL T s T.length) from HV.out.part0 hsi (Nat.le_refl _) hcs)
          go_wp2_with fail
          go_meet
          case rel => exact ⟨_, _, _, rfl, HP.out, HO.out⟩
        · have HP := Lib.hid (show ML m0 w (.slice (Option.map (fun x => x.add (s * 2)) A) (T.length - s) (c - s)) (partL T s T.length) from HV.out.part hsi (Nat.le_refl _) hcs)
          go_wp2_with fail
          go_meet
          case rel => exact ⟨_, _, _, rfl, HP.out, HO.out⟩
      case rest =>
        obtain ⟨A1, n1, c1, rfl, hp, ho5⟩ := hcut
        obtain ⟨wd, hwd⟩ : ∃ wd, wd = wc := ⟨_, rfl⟩
        subst hwd
        have HP := Lib.hid hp
        have HO5 := Lib.hid ho5
        clear hp ho5 HO cD lD
        generalize partL T s T.length = part at *
        go_wp2_with fail
        refine (HSo.out _ (by exact HB0.out.trans (HO5.out.2.mono HB0.out.size)) _ part HP.out).mono ?_
        rintro e w5 ⟨rfl, hw5⟩
        subst hw5
        rw [← HQ.out]
        cases bq with
        | false =>
          have hE : fs = ANS := by
            have h1 := HE5.out
            have hq := HQ.out.symm
            rw [if_pos (by simpa using hq), List.append_nil] at h1
            exact h1
          have HEE := Lib.hid hE
          clear hE
          have HBe := Lib.hid (HB0.out.trans (HO5.out.2.mono HB0.out.size))
          go_wp2_with fail
          go_ret
          exact ⟨vo, vs, rfl, own_base HO5.out.1 HB0.out.size, by rw [← HEE.out]; exact HF.out.keep HBe.out, by omega, HBe.out⟩
        | true =>
          have hE : fs ++ [part] = ANS := by
            have h1 := HE5.out
            have hq := HQ.out.symm
            rw [if_neg (by simpa using hq)] at h1
            exact h1
          have HEE := Lib.hid hE
          clear hE
          have HOa := Lib.hid (HO5.out.1.alloc (.cells #[.slice A1 n1 c1] 57))
          have HN := Lib.hid (new_one w5 (.slice A1 n1 c1) 57)
          have hu1 := HP.out.one
          go_wp2_with (at_builtin; refine wpList_append_own _ rfl _ _ 55 rfl w1.heap.size 57 i0 (.slice none 0 0) 1 24 Tryd.underlying55 hi0 hz0 hz1 hz2 rfl (by decide) vo vs.length vs rfl HOa.out ⟨w5.heap.size, 0, none⟩ 1 1 [.slice A1 n1 c1] rfl rfl HN.out (fun z hz => by simp at hz; subst hz; exact hu1) ?c3 ?c4 ?c5 ?_)
          case c3 => unfold maxLen; omega
          case c4 => omega
          case c5 => have := HO5.out.2.size; simp; omega
          intro v6 w6 hown6 hg6 _
          have HO6 := Lib.hid (HO5.out.grown (.cells #[.slice A1 n1 c1] 57) hg6 hown6)
          have HBe := Lib.hid (HB0.out.trans (HO6.out.2.mono HB0.out.size))
          clear hown6 hg6 hu1
          go_wp2_with fail
          go_ret
          exact ⟨v6, vs ++ [.slice A1 n1 c1], rfl, own_base HO6.out.1 HB0.out.size, by rw [← HEE.out]; exact (HF.out.snoc HP.out).keep HBe.out, by simp; omega, HBe.out⟩

end Go.Proofs.YtbgmjmooifjhjaaDoor
