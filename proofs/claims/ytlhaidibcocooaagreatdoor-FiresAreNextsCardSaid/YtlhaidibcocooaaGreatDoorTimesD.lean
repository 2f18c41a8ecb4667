/- Times, the program: a field is written as it is shown. (Begun; see NOTES.md.) -/
import Derived.Test.YtlhaidibcocooaaGreatDoorTimesC
namespace Go.Proofs.YtlhaidibcocooaaGreatDoor
open Go.RowKit

/-- what showing a field returns -/
def shownV (low high : Nat) (wk : Bool) (set : Nat) (special any : Bool) : Value := match shownK low high wk set special any with
  | none => .tuple #[.string ⟨#[]⟩, .bool false]
  | some l => .tuple #[.string ⟨(fieldT l).toArray⟩, .bool true]
theorem partsL_len (set f n : Nat) : (partsL set f n).length ≤ 64 - n := by
  induction f generalizing n with
  | zero => simp [partsL]
  | succ f ih =>
    simp only [partsL]
    split
    · rename_i hn
      split
      · split
        · have := ih (n + 1); rw [List.length_cons]; omega
        · obtain ⟨r1, r2, r3⟩ := runEnd_all set 63 n (by omega) hn
          have := ih (runEnd set n + 1); rw [List.length_cons]; omega
      · have := ih (n + 1); omega
    · simp
theorem listT_small (set : Nat) : (fieldT (listK set)).length ≤ 384 := by
  rw [← parts_text]
  have h1 := partsL_len set 64 0
  have h2 := join_len (((partsL set 64 0).map partB).map (·.data.toList)) [44] 5 (fun x hx => by
    obtain ⟨y, hy, rfl⟩ := List.mem_map.1 hx
    obtain ⟨q, hq, rfl⟩ := List.mem_map.1 hy
    have h9 := partsL_range set 64 0 q hq
    have := partB_small (p := q) (by omega) (by omega)
    simpa using this)
  rw [List.length_map, List.length_map] at h2
  have h3 : (partsL set 64 0).length * (5 + [(44 : UInt8)].length) ≤ 64 * 6 := Nat.mul_le_mul (by omega) (by decide)
  omega
theorem partsL_ne {set : Nat} (h0 : set ≠ 0) (hs : set < 2 ^ 64) : partsL set 64 0 ≠ [] := by
  intro he
  have := parts_back set hs
  rw [he] at this
  exact h0 this.symm
theorem star_text {set n : Nat} (h0 : set ≠ 0) (hs : set < 2 ^ 64) : fieldT (.starBy n :: listK set) = 42 :: 47 :: Lib.decDigits n ++ 44 :: fieldT (listK set) := by
  have hne := partsL_ne h0 hs
  unfold fieldT listK
  cases hp : partsL set 64 0 with
  | nil => exact absurd hp hne
  | cons p r => simp [Lib.join, List.intercalate, pkT]
theorem star_alone (n : Nat) : fieldT (.starBy n :: listK 0) = 42 :: 47 :: Lib.decDigits n := by
  have h : partsL 0 64 0 = [] := by
    cases hp : partsL 0 64 0 with
    | nil => rfl
    | cons p r =>
      have h1 := (partsL_bits 0 64 0 (by omega) p.1).1 ⟨p, by rw [hp]; exact List.mem_cons_self, Nat.le_refl _, (partsL_range 0 64 0 p (by rw [hp]; exact List.mem_cons_self)).2.1⟩
      simp at h1
  unfold fieldT listK
  rw [h]
  simp [Lib.join, List.intercalate, pkT]
theorem andNot_at (x y : Nat) (hx : x < 18446744073709551616) (hy : y < 18446744073709551616) : bits .andNot .u64 (x : Int) (y : Int) = ((subN x y : Nat) : Int) := u64_andNot_nat x y hx hy
theorem subN_lt (x y : Nat) (hx : x < 18446744073709551616) : subN x y < 18446744073709551616 := Nat.lt_of_le_of_lt Nat.and_le_left hx

/-- what was made, and the box that the walk reads -/
structure BX (w wx : World) (cs : Array Value) : Prop where
  below : Below w.heap.size w wx
  cells : ∀ j, wx.cell? ⟨w.heap.size, j, none⟩ = cs[j]?
  lt : w.heap.size < wx.heap.size
theorem BX.start (w : World) (cs : Array Value) (T : TypeId) : BX w (w.alloc (.cells cs T)) cs := ⟨(Below.refl _ w).alloc (Nat.le_refl _) _, box_cell w cs T, by simp⟩
theorem BX.keep {w wx wy : World} {cs : Array Value} (h : BX w wx cs) (hb : Below wx.heap.size wx wy) : BX w wy cs :=
  ⟨h.below.trans (hb.mono h.below.size), fun j => (hb.cell (p := ⟨w.heap.size, j, none⟩) h.lt).trans (h.cells j), Nat.lt_of_lt_of_le h.lt hb.size⟩
theorem ret_two {s s' : ByteArray} {b b' : Bool} (h1 : s = s') (h2 : b = b') : Ending.returned (.tuple #[.string s, .bool b]) = .returned (.tuple #[.string s', .bool b']) := by rw [h1, h2]

theorem list_var (set : Nat) (hs : set < 18446744073709551616) : ∃ d : ByteArray, d = ⟨(fieldT (listK set)).toArray⟩ ∧ d.size ≤ 384 ∧ ∀ W, Calls Tryz.prog 50 #[.int .u64 (set : Int)] W fun e w' => e = .returned (.string d) ∧ Below W.heap.size W w' :=
  ⟨_, rfl, by show (fieldT (listK set)).toArray.size ≤ 384; rw [List.size_toArray]; exact listT_small set, fun W => listed_any set W hs⟩
theorem star_bytes {dn ls : ByteArray} {n set : Nat} (h1 : dn = ⟨(Lib.decDigits n).toArray⟩) (h2 : ls = ⟨(fieldT (listK set)).toArray⟩) (h0 : set ≠ 0) (hs : set < 2 ^ 64) : (⟨#[42, 47]⟩ : ByteArray) ++ dn ++ (⟨#[44]⟩ ++ ls) = ⟨(fieldT (.starBy n :: listK set)).toArray⟩ := by
  rw [star_text h0 hs, h1, h2]
  apply ByteArray.ext
  simp [ByteArray.data_append]
theorem star_bytes0 {dn : ByteArray} {n : Nat} (h1 : dn = ⟨(Lib.decDigits n).toArray⟩) : (⟨#[42, 47]⟩ : ByteArray) ++ dn = ⟨(fieldT (.starBy n :: listK 0)).toArray⟩ := by
  rw [star_alone, h1]
  apply ByteArray.ext
  simp [ByteArray.data_append]
set_option maxRecDepth 100000 in
set_option maxHeartbeats 3200000 in
theorem written_any (low high : Nat) (wk : Bool) (nm : ByteArray) (set : Nat) (special any : Bool) (w : World) (hset : set < 18446744073709551616) (hh : high ≤ 59) (hlh : low ≤ high) (h7 : high ≠ 7) (hwk : wk = true → low = 0 ∧ high = 6) (hsa : special = false → any = false) :
    Calls Tryz.prog 23 #[.agg #[.int .i64 (low : Int), .int .i64 (topOf high wk : Int), .string nm], .int .u64 (set : Int), .bool special, .bool any] w fun e w' => e = .returned (shownV low high wk set special any) ∧ Below w.heap.size w w' := by
  have htop : low ≤ topOf high wk ∧ topOf high wk ≤ 59 := by
    unfold topOf
    cases wk with
    | true => have := (hwk rfl).1; simp [this]
    | false => simp; omega
  have htw : decide (topOf high wk = 7) = wk := by
    unfold topOf
    cases wk with
    | true => simp
    | false => simp [h7]
  have hal : (if topOf high wk = 7 then 6 else topOf high wk) = high := by
    unfold topOf
    cases wk with
    | true => have := (hwk rfl).2; simp [this]
    | false => simp [h7]
  have HAll := Lib.hid (fun W => all_any low (topOf high wk) nm W htop.2 htop.1)
  rw [hal] at HAll
  have HSt := Lib.hid (fun n W (h1 : 1 ≤ n) (h2 : n ≤ 99) => stepped_any low (topOf high wk) n nm W htop.2 htop.1 h1 h2)
  rw [htw] at HSt
  have hall : allN low high < 18446744073709551616 := orL_lt _ 0 64 (fun n hn => by have := upL_lt low high 1 n hn; omega) (by decide)
  have HStl := Lib.hid (fun n => stepN_lt low (topOf high wk) wk n (by omega))
  have HSV : Hid (∃ V, shownV low high wk set special any = V) := Lib.hid ⟨_, rfl⟩
  obtain ⟨V, hV⟩ := HSV.out
  rw [hV]
  have HV := Lib.hid hV
  clear hV HSV
  obtain ⟨TB, hTB⟩ : ∃ TB, tryBy low (topOf high wk) wk set 99 1 = TB := ⟨_, rfl⟩
  have HTB := Lib.hid hTB
  clear hTB htw hal htop
  have HX := Lib.hid (BX.start w #[.int .i64 (low : Int), .int .i64 (topOf high wk : Int), .string nm] 60)
  obtain ⟨AL, hAL⟩ : ∃ AL, allN low high = AL := ⟨_, rfl⟩
  rw [hAL] at HAll hall
  obtain ⟨top, htp⟩ : ∃ top, topOf high wk = top := ⟨_, rfl⟩
  rw [htp] at HAll HSt HStl HTB HX
  have hVV := HV.out
  unfold shownV shownK at hVV
  rw [hAL, htp] at hVV
  have HVV := Lib.hid hVV
  rw [htp]
  have hsub := andNot_at set AL hset hall
  clear hAL htp hVV HV hwk hlh h7 hh
  go_enter Tryz.func23, Tryz.ntmps23
  go_upto_region 1 with fail
  generalize w.alloc (.cells #[.int .i64 (low : Int), .int .i64 (top : Int), .string nm] 60) = w1 at *
  rcases Nat.eq_zero_or_pos set with h0 | h0
  · subst h0
    have hV2 := HVV.out
    rw [if_pos (.inl rfl)] at hV2
    have HVf := Lib.hid hV2
    clear hV2 HVV HTB hsub
    go_wp2_with fail
    go_ret2
    exact ⟨by rw [← HVf.out]; rfl, HX.out.below⟩
  · have hz : ((set : Int) == 0) = false := by rw [beq_eq_false_iff_ne]; omega
    obtain ⟨cx, _, lx⟩ : (∀ j, w1.cell? ⟨w.heap.size, j, none⟩ = (#[Value.int .i64 (low : Int), .int .i64 (top : Int), .string nm] : Array Value)[j]?) ∧ True ∧ w.heap.size < w1.heap.size := ⟨HX.out.cells, trivial, HX.out.lt⟩
    go_wp2_with fail
    refine (HAll.out w1).mono ?_
    rintro e w2 ⟨rfl, hb2⟩
    have HX2 := Lib.hid (HX.out.keep hb2)
    clear hb2 HX cx lx
    obtain ⟨cx, lx⟩ : (∀ j, w2.cell? ⟨w.heap.size, j, none⟩ = (#[Value.int .i64 (low : Int), .int .i64 (top : Int), .string nm] : Array Value)[j]?) ∧ w.heap.size < w2.heap.size := ⟨HX2.out.cells, HX2.out.lt⟩
    rcases Nat.eq_zero_or_pos (subN set AL) with h1 | h1
    · rw [h1] at hsub
      have hV2 := HVV.out
      rw [if_neg (by rintro (h | h) <;> omega)] at hV2
      have HV2 := Lib.hid hV2
      clear HVV hV2
      go_wp2_with fail
      refine (HAll.out w2).mono ?_
      rintro e w3 ⟨rfl, hb3⟩
      have HX3 := Lib.hid (HX2.out.keep hb3)
      clear hb3 HX2 cx lx
      have hV3 := HV2.out
      by_cases heq : set = AL
      · have hqq : ((set : Int) == (AL : Int)) = true := by rw [heq]; simp
        cases any with
        | true =>
          rw [if_pos ⟨heq, .inl rfl⟩] at hV3
          have hsp : special = true := by cases special with | true => rfl | false => exact absurd (hsa rfl) (by decide)
          subst hsp
          clear heq
          have HVf := Lib.hid hV3
          clear hV3 HV2 HTB
          go_wp2_with fail
          go_ret2
          exact ⟨by rw [← HVf.out]; rfl, HX3.out.below⟩
        | false =>
          cases special with
          | false =>
            rw [if_pos ⟨heq, .inr rfl⟩] at hV3
            clear heq
            have HVf := Lib.hid hV3
            clear hV3 HV2 HTB
            go_wp2_with fail
            go_ret2
            exact ⟨by rw [← HVf.out]; rfl, HX3.out.below⟩
          | true =>
            rw [if_neg (by rintro ⟨_, h | h⟩ <;> cases h), if_pos rfl] at hV3
            clear heq
            have HVf := Lib.hid hV3
            clear hV3 HV2 HTB
            go_wp2_with fail
            refine (listed_any set w3 hset).mono ?_
            rintro e w4 ⟨rfl, hb4⟩
            have HX4 := Lib.hid (HX3.out.keep hb4)
            clear hb4
            go_wp2_with fail
            go_ret2
            exact ⟨by rw [← HVf.out]; rfl, HX4.out.below⟩
      · have hqq : ((set : Int) == (AL : Int)) = false := by rw [beq_eq_false_iff_ne]; omega
        rw [if_neg (fun h => heq h.1)] at hV3
        clear heq
        cases any with
        | false =>
          rw [if_pos rfl] at hV3
          cases special
          all_goals
            have HVf := Lib.hid hV3
            clear hV3 HV2 HTB
            go_wp2_with fail
            refine (listed_any set w3 hset).mono ?_
            rintro e w4 ⟨rfl, hb4⟩
            have HX4 := Lib.hid (HX3.out.keep hb4)
            clear hb4
            go_wp2_with fail
            go_ret2
            exact ⟨by rw [← HVf.out]; rfl, HX4.out.below⟩
        | true =>
          rw [if_neg (by decide)] at hV3
          have hsp : special = true := by cases special with | true => rfl | false => exact absurd (hsa rfl) (by decide)
          subst hsp
          rw [HTB.out] at hV3
          have HV4 := Lib.hid hV3
          clear hV3 HV2
          go_wp2_with fail
          go_loopw [10] (fun s10 wr => ∃ n : Nat, s10 = .int .i64 (n : Int) ∧ 1 ≤ n ∧ n ≤ 100 ∧ Hid (tryBy low top wk set (100 - n) n = TB) ∧ Hid (BX w wr #[.int .i64 (low : Int), .int .i64 (top : Int), .string nm])) (fun s10 _ => 100 - (intOf s10).toNat)
          case atStart => exact ⟨1, rfl, Nat.le_refl _, by decide, HTB.out, HX3.out⟩
          case round =>
            obtain ⟨n, rfl, hn1, hn2, HT, HXn⟩ := hrel
            by_cases hlt : n ≤ 99
            · have hT := HT.out
              rw [show 100 - n = (100 - (n + 1)) + 1 by omega, tryBy] at hT
              obtain ⟨cx, lx⟩ : (∀ j, wr.cell? ⟨w.heap.size, j, none⟩ = (#[Value.int .i64 (low : Int), .int .i64 (top : Int), .string nm] : Array Value)[j]?) ∧ w.heap.size < wr.heap.size := ⟨HXn.out.cells, HXn.out.lt⟩
              have hltI : decide ((n : Int) ≤ 99) = true := by rw [decide_eq_true_eq]; omega
              have hSl := HStl.out n
              have HS1 := Lib.hid (HSt.out n wr hn1 hlt)
              obtain ⟨S, hS⟩ : ∃ S, stepN low top wk n = S := ⟨_, rfl⟩
              rw [hS] at hT hSl HS1
              have hss := andNot_at S set hSl hset
              have hsr := andNot_at set S hset hSl
              have hSS := Lib.hid hS
              clear hS
              go_wp2_with fail
              refine HS1.out.mono ?_
              rintro e w4 ⟨rfl, hb4⟩
              have HX4 := Lib.hid (HXn.out.keep hb4)
              clear hb4 cx lx HXn
              rcases Nat.eq_zero_or_pos (subN S set) with hz1 | hz1
              · rw [hz1] at hss
                rw [if_pos hz1] at hT
                have hVn := HV4.out
                rw [← hT] at hVn
                obtain ⟨dn, hdn0, hdns, hdnc⟩ := itoa_var (n := n) (by omega)
                have hdn := Lib.hid hdn0
                have HDn := Lib.hid hdnc
                have hVm : Value.tuple #[.string ⟨(fieldT (.starBy n :: listK (subN set S))).toArray⟩, .bool true] = V := by rw [← hSS.out]; exact hVn
                have HVn := Lib.hid hVm
                clear hdn0 hdnc hT hVn hVm HT
                go_wp2_with fail
                refine (HDn.out _).mono ?_
                rintro e w5 ⟨rfl, hw5⟩
                rw [hw5]
                clear hw5
                rcases Nat.eq_zero_or_pos (subN set S) with hz2 | hz2
                · rw [hz2] at hsr
                  have HVo := Lib.hid (show Value.tuple #[.string (⟨#[42, 47]⟩ ++ dn), .bool true] = V from by rw [star_bytes0 hdn.out, ← hz2]; exact HVn.out)
                  clear hz2
                  go_wp2_with fail
                  go_ret2
                  exact ⟨by rw [← HVo.out]; rfl, HX4.out.below⟩
                · have hn0 : (((subN set S : Nat) : Int) == 0) = false := by rw [beq_eq_false_iff_ne]; omega
                  have hrl := subN_lt set S hset
                  obtain ⟨ls, hls0, hlss, hlsc⟩ := list_var (subN set S) hrl
                  have HLs := Lib.hid hlsc
                  have HVo := Lib.hid (show Value.tuple #[.string (⟨#[42, 47]⟩ ++ dn ++ (⟨#[44]⟩ ++ ls)), .bool true] = V from by rw [star_bytes hdn.out hls0 (by omega) hrl]; exact HVn.out)
                  clear hlsc hls0
                  generalize subN set S = rest at *
                  go_wp2_with fail
                  refine (HLs.out _).mono ?_
                  rintro e w6 ⟨rfl, hb6⟩
                  have HX6 := Lib.hid (HX4.out.keep hb6)
                  clear hb6
                  go_wp2_with fail
                  go_ret2
                  exact ⟨by rw [← HVo.out]; rfl, HX6.out.below⟩
              · have hz2 : (((subN S set : Nat) : Int) == 0) = false := by rw [beq_eq_false_iff_ne]; omega
                rw [if_neg (by omega)] at hT
                have HT2 := Lib.hid hT
                clear hT HT
                go_wp2_with fail
                go_roundw
                case rel => exact ⟨n + 1, by go_num, by omega, by omega, HT2.out, HX4⟩
                case measure => simp [intOf]; omega
            · have hnn : n = 100 := by omega
              subst hnn
              have hT := HT.out
              rw [show 100 - 100 = 0 from rfl, tryBy] at hT
              have hVn := HV4.out
              rw [← hT] at hVn
              have HVn := Lib.hid hVn
              clear hT hVn HT
              go_wp2_with fail
              go_ret2
              exact ⟨by rw [← HVn.out]; rfl, HXn.out.below⟩
    · have hn : (((subN set AL : Nat) : Int) == 0) = false := by rw [beq_eq_false_iff_ne]; omega
      have hV2 := HVV.out
      rw [if_pos (.inr (by omega))] at hV2
      have HVf := Lib.hid hV2
      clear hV2 HVV HTB
      go_wp2_with fail
      go_ret2
      exact ⟨by rw [← HVf.out]; rfl, HX2.out.below⟩

end Go.Proofs.YtlhaidibcocooaaGreatDoor
