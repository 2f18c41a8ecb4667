/- SplitMatches, the program: a text divided; Split. -/
import Derived.Test.YtbgmjmooifjhjaaDoorSplitD
namespace Go.Proofs.YtbgmjmooifjhjaaDoor
open Go.RowKit

theorem index_sign (s : ByteArray) (c : UInt8) (w : World) : Calls Tryd.prog 31 #[.string s, .int .u8 (c.toNat : Int)] w fun e w' => ∃ n : Int, e = .returned (.int .i64 n) ∧ decide (0 ≤ n) = inL s.data.toList c ∧ w' = w :=
  (index_any s c w).mono fun _ _ h => ⟨_, h.1, index_in _ _, h.2⟩
theorem blank_step (F : List UInt8) (k : Nat) (h : k < F.length) : blankF (F.take (k + 1)) = blankF (F.take k) ++ (if inL plainS F[k] = true then [F[k]] else []) := by
  unfold blankF inL
  rw [List.take_add_one, List.getElem?_eq_getElem h, List.filter_append]
  congr 1
  simp only [Option.toList_some, List.filter_cons, List.filter_nil]
theorem wide_step (F : List UInt8) (k : Nat) (h : k < F.length) : wideF (F.take (k + 1)) = wideF (F.take k) ++ (if inL plainS F[k] = true then [] else [F[k]]) := by
  unfold wideF inL
  rw [List.take_add_one, List.getElem?_eq_getElem h, List.filter_append]
  congr 1
  simp only [Option.toList_some, List.filter_cons, List.filter_nil]
  cases plainS.contains F[k] <;> rfl
theorem ext_one (s : ByteArray) (k : Nat) (h : k < s.size) : (s.extract k (k + 1)).data.toList = [s[k]] := by
  have hk : k < s.data.toList.length := by rw [size_toList]; exact h
  rw [Lib.extract_data, drop_at hk, show k + 1 - k = 1 by omega]
  rfl
def slen : Value → Nat | .slice _ n _ => n | _ => 0

set_option maxRecDepth 100000 in
set_option maxHeartbeats 3200000 in
theorem divided_any (T : List UInt8) (v : Value) (s : ByteArray) (w : World) (hv : ML m0 w v T) (hT : T.length ≤ 1000000000) (hs : s.size ≤ 1000000000) :
    Calls Tryd.prog 19 #[v, .string s] w fun e w' => ∃ vo vs, e = .returned vo ∧ w'.ownsRow w.heap.size 57 1 vo vs.length vs ∧ FLs m0 w' vs (divL (inL (blankF s.data.toList)) (inL (wideF s.data.toList)) [] T) ∧ vs.length ≤ T.length + 1 ∧ Below w.heap.size w w' := by
  obtain ⟨ANS, hANS⟩ : ∃ ANS, divL (inL (blankF s.data.toList)) (inL (wideF s.data.toList)) [] T = ANS := ⟨_, rfl⟩
  rw [hANS]
  obtain ⟨A, c, rfl, hc, hz⟩ := id hv
  clear hz
  have HV := Lib.hid hv
  have HA0 := Lib.hid hANS
  obtain ⟨i0, hi0, hz0, hz1, hz2⟩ := info_parts fieldInfo
  clear hv hANS
  go_enter Tryd.func19, Tryd.ntmps19
  go_wp2_with fail
  go_loopw [5, 6, 13] (fun s5 s6 i wr => ∃ (k : Nat) (bs ws : ByteArray), s5 = .string bs ∧ s6 = .string ws ∧ i = .int .i64 (k : Int) ∧ k ≤ s.size ∧ Hid (bs.data.toList = blankF (s.data.toList.take k)) ∧ Hid (ws.data.toList = wideF (s.data.toList.take k)) ∧ Hid (Below w.heap.size w wr)) (fun _ _ i _ => s.size - (intOf i).toNat)
  case atStart => exact ⟨0, ⟨#[]⟩, ⟨#[]⟩, rfl, rfl, rfl, Nat.zero_le _, rfl, rfl, Below.refl _ _⟩
  case round =>
    obtain ⟨k, bs, ws, rfl, rfl, rfl, hk, HBS, HWS, HB⟩ := hrel
    by_cases hlt : k < s.size
    · have hkF : k < s.data.toList.length := by rw [size_toList]; exact hlt
      have hFk : s.data.toList[k]'hkF = s[k] := by rw [Array.getElem_toList]; rfl
      have hst1 := blank_step s.data.toList k hkF
      have hst2 := wide_step s.data.toList k hkF
      rw [hFk] at hst1 hst2
      have HST1 := Lib.hid hst1
      have HST2 := Lib.hid hst2
      clear hst1 hst2 hFk
      have hbsz : bs.size ≤ s.size := by
        rw [← size_toList, HBS.out, ← size_toList s]
        exact Nat.le_trans (List.length_filter_le _ _) (List.length_take_le' _ _)
      have hwsz : ws.size ≤ s.size := by
        rw [← size_toList, HWS.out, ← size_toList s]
        exact Nat.le_trans (List.length_filter_le _ _) (List.length_take_le' _ _)
      have HEX := Lib.hid (ext_one s k hlt)
      go_wp2_with fail
      refine (index_sign ⟨#[32, 9, 10]⟩ s[k] _).mono ?_
      rintro e w3 ⟨n, rfl, hn, hw3⟩
      subst hw3
      cases hq : inL plainS s[k] with
      | true =>
        rw [show inL (⟨#[32, 9, 10]⟩ : ByteArray).data.toList s[k] = true from hq] at hn
        go_wp2_with fail
        refine ⟨⟨k + 1, bs ++ s.extract k (k + 1), ws, rfl, rfl, by go_num, by omega, ?_, ?_, HB⟩, by simp [intOf]; omega⟩
        · show (bs ++ s.extract k (k + 1)).data.toList = _
          rw [HST1.out, if_pos hq, ByteArray.data_append, Array.toList_append, HBS.out, HEX.out]
        · show ws.data.toList = _
          rw [HST2.out, if_pos hq, List.append_nil]; exact HWS.out
      | false =>
        rw [show inL (⟨#[32, 9, 10]⟩ : ByteArray).data.toList s[k] = false from hq] at hn
        have hq2 : ¬ inL plainS s[k] = true := by rw [hq]; simp
        go_wp2_with fail
        refine ⟨⟨k + 1, bs, ws ++ s.extract k (k + 1), rfl, rfl, by go_num, by omega, ?_, ?_, HB⟩, by simp [intOf]; omega⟩
        · show bs.data.toList = _
          rw [HST1.out, if_neg hq2, List.append_nil]; exact HBS.out
        · show (ws ++ s.extract k (k + 1)).data.toList = _
          rw [HST2.out, if_neg hq2, ByteArray.data_append, Array.toList_append, HWS.out, HEX.out]
    · have hks : k = s.size := by omega
      have hbl : bs.data.toList = blankF s.data.toList := by have h1 := HBS.out; rw [hks, ← size_toList, List.take_length] at h1; exact h1
      have hwd : ws.data.toList = wideF s.data.toList := by have h1 := HWS.out; rw [hks, ← size_toList, List.take_length] at h1; exact h1
      rw [← hbl, ← hwd] at HA0
      clear HBS HWS hbl hwd
      subst hks
      have HFl := Lib.hid (fun W (hb : Below w.heap.size w W) => fields_any T (.slice A T.length c) bs ws W (HV.out.keep hb) hT)
      have HNo := Lib.hid (fun W (hb : Below w.heap.size w W) => noBreak_any T (.slice A T.length c) W (HV.out.keep hb) hT)
      go_wp2_with fail
      go_loopw [0, 8] (fun s0 s8 wx => (s0 = .slice A T.length c ∧ s8 = .slice none 0 0 ∧ Hid (Below w.heap.size w wx)) ∨ (s0 = .slice none 0 0 ∧ ∃ (vo : Value) (vs : List Value), vo = s8 ∧ Hid (wx.ownsRow w.heap.size 57 1 vo vs.length vs) ∧ Hid (FLs m0 wx vs ANS) ∧ vs.length ≤ T.length + 1 ∧ Hid (Below w.heap.size w wx))) (fun s0 _ _ => slen s0)
      case atStart => exact .inl ⟨rfl, rfl, HB.out⟩
      case round =>
        rcases hrel with ⟨rfl, rfl, HB2⟩ | ⟨rfl, vo, vs, rfl, HO, HF, hvl, HB2⟩
        · by_cases h0 : 0 < T.length
          · go_wp2_with fail
            refine (HNo.out _ HB2.out).mono ?_
            rintro e w3 ⟨rfl, hb3⟩
            have HB3 := Lib.hid (HB2.out.trans (hb3.mono HB2.out.size))
            clear hb3
            go_wp2_with fail
            refine (HFl.out _ HB3.out).mono ?_
            rintro e w4 ⟨vo, vs, rfl, ho4, hf4, hl4, hb4⟩
            have HB4 := Lib.hid (HB3.out.trans (hb4.mono HB3.out.size))
            rw [HA0.out] at hf4
            have HF4 := Lib.hid hf4
            have HO4 := Lib.hid ho4
            have hsz3 := HB3.out.size
            have hsz4 := HB4.out.size
            clear hb4 hf4
            rcases ho4.2 with ⟨rfl, hv0⟩ | ⟨g, cap, cur, rfl, hbg, hgg, hnc, hcm, hcs, htk⟩
            · have hvs : vs = [] := List.length_eq_zero_iff.1 hv0
              subst hvs
              clear ho4
              go_wp2_with fail
              exact ⟨.inr ⟨rfl, .slice none 0 0, [], rfl, World.ownsRow_nil _ _ _ _, HF4.out, by simp, HB4.out⟩, by simp [slen]; omega⟩
            · have HN := Lib.hid (HO4.out.cells (g := g) rfl)
              have h1 := HF4.out.one
              have H1 := Lib.hid h1
              clear ho4 hgg hcs htk hbg h1
              go_wp2_with (at_builtin; refine wpList_append_own _ rfl _ _ 55 rfl w.heap.size 57 i0 (.slice none 0 0) 1 24 Tryd.underlying55 hi0 hz0 hz1 hz2 rfl (by decide) (.slice none 0 0) 0 [] rfl (World.ownsRow_nil _ _ _ _) ⟨g, 0, none⟩ vs.length cap vs rfl (Nat.mul_one _).symm HN.out H1.out ?c3 ?c4 ?c5 ?_)
              case c3 => unfold maxLen; omega
              case c4 => omega
              case c5 => omega
              intro v6 w6 hown6 hg6 _
              have HB6 := Lib.hid (HB4.out.grown hg6 (by omega) (fun g hg => by simp [Value.ownBlock] at hg))
              have HF6 := Lib.hid (HF4.out.keep ((Below.refl _ w4).grown hg6 (Nat.le_refl _) (fun g hg => by simp [Value.ownBlock] at hg)))
              have HO6 := Lib.hid hown6
              clear hg6 hown6
              go_wp2_with fail
              exact ⟨.inr ⟨rfl, v6, vs, rfl, HO6.out, HF6.out, hl4, HB6.out⟩, by simp [slen]; omega⟩
          · have hT0 : T = [] := List.length_eq_zero_iff.1 (by omega)
            have hd : decide ((0 : Int) < (T.length : Int)) = false := by rw [decide_eq_false_iff_not]; omega
            have hA : ANS = [] := by rw [← HA0.out, hT0, divL_nil]; rfl
            have HAA := Lib.hid hA
            clear hA hT0
            go_wp2_with fail
            go_ret
            exact ⟨.slice none 0 0, [], rfl, World.ownsRow_nil _ _ _ _, by rw [HAA.out]; exact FLs.nil _ _, by simp, HB2.out⟩
        · go_wp2_with fail
          go_ret
          exact ⟨vo, vs, rfl, HO.out, HF.out, hvl, HB2.out⟩

end Go.Proofs.YtbgmjmooifjhjaaDoor
