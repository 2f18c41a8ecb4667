/- SplitMatches, the program's fields, first part: whether a place separates; where a separation ends. -/
import Derived.Test.YtbgmjmooifjhjaaDoorSplitLaw
import Derived.Test.YtbgmjmooifjhjaaDoorSplitMem
import Derived.IntWalk
namespace Go.Proofs.YtbgmjmooifjhjaaDoor
open Go.RowKit

abbrev m0 : Value := .int .i64 0
abbrev dvV (v : Value) (x y : ByteArray) : Value := .agg #[v, .string x, .string y]
theorem index_any (s : ByteArray) (c : UInt8) (w : World) : Calls Tryd.prog 31 #[.string s, .int .u8 (c.toNat : Int)] w fun e w' => e = .returned (.int .i64 (Lib.indexByte s.data.toList c)) ∧ w' = w :=
  (Tryd.strings_IndexByte s (c.toNat : Int) w).mono fun e w' h => by
    have hc : ((c.toNat : Int)).toNat.toUInt8 = c := by simp
    rw [hc] at h
    exact h
set_option maxHeartbeats 800000 in
theorem is_any (T : List UInt8) (v : Value) (x y set : ByteArray) (i : Nat) (w : World) (hv : ML m0 w v T) :
    Calls Tryd.prog 50 #[dvV v x y, .int .i64 (i : Int), .string set] w fun e w' => e = .returned (.bool (atB T i (inL set.data.toList))) ∧ Below w.heap.size w w' := by
  obtain ⟨A, c, rfl, hc, hz⟩ := id hv
  clear hz
  by_cases hi : i < T.length
  · obtain ⟨b, off, rfl, hb, h1, h2⟩ := hv.at hi
    rw [atB_at hi]
    have HX := Lib.hid (fun W => index_any set T[i] W)
    have hidx := index_in set.data.toList T[i]
    generalize T[i] = ch at *
    generalize T.length = n at *
    clear hv
    go_enter Tryd.func50, Tryd.ntmps50
    go_wp2_with fail
    refine (HX.out _).mono ?_
    rintro e w2 ⟨rfl, hw2⟩
    subst hw2
    go_wp2_with fail
    go_ret
    exact ⟨rfl, (Below.refl _ w).alloc (Nat.le_refl _) _⟩
  · rw [atB_end (by omega)]
    generalize T.length = n at *
    have hd : decide ((i : Int) < (n : Int)) = false := by rw [decide_eq_false_iff_not]; omega
    clear hv
    go_enter Tryd.func50, Tryd.ntmps50
    go_wp2_with fail
    go_ret
    exact ⟨rfl, (Below.refl _ w).alloc (Nat.le_refl _) _⟩

set_option maxHeartbeats 400000 in
theorem some_any (T : List UInt8) (v : Value) (w : World) (hv : ML m0 w v T) :
    Calls Tryd.prog 52 #[v] w fun e w' => e = .returned (.bool (decide (T ≠ []))) ∧ w' = w := by
  obtain ⟨A, c, rfl, hc, hz⟩ := id hv
  have hl : decide ((0 : Int) < (T.length : Int)) = decide (T ≠ []) := by
    cases T with
    | nil => rfl
    | cons a r => simp
  clear hv hz
  go_enter Tryd.func52, Tryd.ntmps52
  go_wp2_with fail
  go_ret
  exact ⟨ret_bool (by first | rfl | (rw [← hl]; simp)), rfl⟩

/-- a divider, in its box -/
def DV (w : World) (g : Nat) (v : Value) (x y : ByteArray) : Prop := (∀ j, w.cell? ⟨g, j, none⟩ = #[v, .string x, .string y][j]?) ∧ g < w.heap.size
theorem DV.keep {w w' : World} {g : Nat} {v : Value} {x y : ByteArray} (h : DV w g v x y) (hb : Below w.heap.size w w') : DV w' g v x y :=
  ⟨fun j => (hb.cell (p := ⟨g, j, none⟩) h.2).trans (h.1 j), Nat.lt_of_lt_of_le h.2 hb.size⟩
theorem DV.new (w : World) (v : Value) (x y : ByteArray) (t : TypeId) : DV (w.alloc (.cells #[v, .string x, .string y] t)) w.heap.size v x y :=
  ⟨fun j => by
    have h := heap_alloc_new w (.cells #[v, .string x, .string y] t)
    unfold World.cell?
    dsimp only
    rw [h]
    rfl, by simp⟩

set_option maxRecDepth 100000 in
set_option maxHeartbeats 1600000 in
theorem sep_any (T : List UInt8) (v : Value) (x y : ByteArray) (i : Nat) (w : World) (hv : ML m0 w v T) (hi : i ≤ T.length) (hT : T.length ≤ 1000000000) :
    Calls Tryd.prog 51 #[dvV v x y, .int .i64 (i : Int)] w fun e w' => ∃ k : Nat, e = .returned (.tuple #[.int .i64 (k : Int), .bool (sepE (inL x.data.toList) (inL y.data.toList) (T.drop i)).2]) ∧
      T.drop k = (sepE (inL x.data.toList) (inL y.data.toList) (T.drop i)).1 ∧ i ≤ k ∧ k ≤ T.length ∧ Below w.heap.size w w' := by
  obtain ⟨A, c, rfl, hc, hz⟩ := id hv
  clear hz
  have HI := Lib.hid (fun W (hb : Below w.heap.size w W) set k => is_any T (.slice A T.length c) x y set k W (hv.keep hb))
  clear hv
  go_enter Tryd.func51, Tryd.ntmps51
  go_wp2_with fail
  have hd0 := DV.new w (.slice A T.length c) x y 93
  have hb0 := (Below.refl _ w).alloc (Nat.le_refl _) (.cells #[.slice A T.length c, .string x, .string y] 93)
  generalize w.alloc (.cells #[.slice A T.length c, .string x, .string y] 93) = w1 at *
  generalize hg : w.heap.size = g at *
  have HGE := Lib.hid hg
  have HGL := Lib.hid (show ∀ W, Below g w W → g ≤ W.heap.size from fun W h => hg ▸ h.size)
  clear hg
  have HD0 := Lib.hid hd0
  have HB0 := Lib.hid hb0
  clear hd0 hb0
  go_loopw [1] (fun i1 wr => ∃ k : Nat, i1 = .int .i64 (k : Int) ∧ i ≤ k ∧ k ≤ T.length ∧ Hid ((T.drop k).dropWhile (inL x.data.toList) = (T.drop i).dropWhile (inL x.data.toList)) ∧ Hid (DV wr g (.slice A T.length c) x y) ∧ Hid (Below g w wr)) (fun i1 _ => T.length - (intOf i1).toNat)
  case atStart => exact ⟨i, rfl, Nat.le_refl _, hi, rfl, HD0.out, HB0.out⟩
  case round =>
    obtain ⟨k, rfl, hk1, hk2, HE, HD, HB⟩ := hrel
    obtain ⟨cD, lD⟩ := HD.out
    cases hb : atB T k (inL x.data.toList) with
    | true =>
      go_wp2_with fail
      refine (HI.out _ (by exact HB.out) _ _).mono ?_
      rintro e w2 ⟨rfl, hb2⟩
      have hk3 := atB_lt hb
      have HE2 := Lib.hid ((dropW_step hb).trans HE.out)
      have HD2 := Lib.hid (HD.out.keep hb2)
      have HB2 := Lib.hid (HB.out.trans (hb2.mono (HGL.out _ HB.out)))
      rw [hb]
      clear hb hb2 cD lD
      go_wp2_with fail
      go_roundw
      case rel => exact ⟨k + 1, by go_num, by omega, by omega, HE2.out, HD2.out, HB2.out⟩
      case measure => simp [intOf]; omega
    | false =>
      have HK := Lib.hid ((dropW_stop hb).symm.trans HE.out)
      go_wp2_with fail
      refine (HI.out _ (by exact HB.out) _ _).mono ?_
      rintro e w2 ⟨rfl, hb2⟩
      have HD2 := Lib.hid (HD.out.keep hb2)
      have HB2 := Lib.hid (HB.out.trans (hb2.mono (HGL.out _ HB.out)))
      rw [hb]
      clear hb hb2 cD lD HE
      obtain ⟨cD, lD⟩ := HD2.out
      go_wp2_with fail
      refine (HI.out _ (by exact HB2.out) _ _).mono ?_
      rintro e w3 ⟨rfl, hb3⟩
      have HD3 := Lib.hid (HD2.out.keep hb3)
      have HB3 := Lib.hid (HB2.out.trans (hb3.mono (HGL.out _ HB2.out)))
      clear hb3 cD lD
      cases hw : atB T k (inL y.data.toList) with
      | false =>
        have HS := Lib.hid (sepE_stay (isB := inL x.data.toList) HK.out hw)
        clear hw
        go_wp2_with fail
        go_ret2
        exact ⟨k, by rw [HS.out]; rfl, by rw [HS.out], hk1, hk2, by rw [HGE.out]; exact HB3.out⟩
      | true =>
        have HS := Lib.hid (sepE_go (isB := inL x.data.toList) HK.out hw)
        have hk3 := atB_lt hw
        clear hw
        go_wp2_with fail
        go_loopw [1] (fun i1 wr => ∃ k2 : Nat, i1 = .int .i64 (k2 : Int) ∧ k + 1 ≤ k2 ∧ k2 ≤ T.length ∧ Hid ((T.drop k2).dropWhile (inL x.data.toList) = (T.drop (k + 1)).dropWhile (inL x.data.toList)) ∧ Hid (DV wr g (.slice A T.length c) x y) ∧ Hid (Below g w wr)) (fun i1 _ => T.length - (intOf i1).toNat)
        case atStart => exact ⟨k + 1, by go_num, Nat.le_refl _, by omega, rfl, HD3.out, HB3.out⟩
        case round =>
          obtain ⟨k2, rfl, hk4, hk5, HE4, HD4, HB4⟩ := hrel
          obtain ⟨cD, lD⟩ := HD4.out
          cases hb : atB T k2 (inL x.data.toList) with
          | true =>
            have hk6 := atB_lt hb
            have HE5 := Lib.hid ((dropW_step hb).trans HE4.out)
            go_wp2_with fail
            refine (HI.out _ (by exact HB4.out) _ _).mono ?_
            rintro e w5 ⟨rfl, hb5⟩
            have HD5 := Lib.hid (HD4.out.keep hb5)
            have HB5 := Lib.hid (HB4.out.trans (hb5.mono (HGL.out _ HB4.out)))
            rw [hb]
            clear hb hb5 cD lD
            go_wp2_with fail
            go_roundw
            case rel => exact ⟨k2 + 1, by go_num, by omega, by omega, HE5.out, HD5.out, HB5.out⟩
            case measure => simp [intOf]; omega
          | false =>
            have HK5 := Lib.hid ((dropW_stop hb).symm.trans HE4.out)
            go_wp2_with fail
            refine (HI.out _ (by exact HB4.out) _ _).mono ?_
            rintro e w5 ⟨rfl, hb5⟩
            have HB5 := Lib.hid (HB4.out.trans (hb5.mono (HGL.out _ HB4.out)))
            rw [hb]
            clear hb hb5 cD lD
            go_wp2_with fail
            go_ret2
            exact ⟨k2, by rw [HS.out]; rfl, by rw [HS.out, HK5.out], by omega, hk5, by rw [HGE.out]; exact HB5.out⟩

end Go.Proofs.YtbgmjmooifjhjaaDoor
