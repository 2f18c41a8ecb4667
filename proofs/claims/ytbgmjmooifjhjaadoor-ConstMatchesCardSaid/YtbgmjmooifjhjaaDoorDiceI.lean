/- ConstMatches, the law's arguments: one step of the generator. (Begun; see NOTES.md.) -/
import Derived.Test.YtbgmjmooifjhjaaDoorDiceH
namespace Go.Proofs.YtbgmjmooifjhjaaDoor
open Go.RowKit

abbrev CW (b B C : Nat) (d : Int) : Prop := ∀ W k', DB W b B k' → k' + C ≤ 4611686018427387904 → Calls Tryd.prog 7 #[.pointer (some ⟨b, 0, none⟩), .int .i64 d] W (WP b B (k' + C) W)
/-- a row of pieces of whose texts nothing is said -/
structure AR (b B k n cap g : Nat) (a w : World) (xs : List Value) : Prop where
  base : b < B ∧ B ≤ a.heap.size
  db : DB w b B k
  only : Only b a w
  own : w.ownsRow a.heap.size 51 6 (.slice (some ⟨g, 0, none⟩) n cap) n xs
  kinds : ∀ j, j < n → ∃ x : Int, xs[j * 6]? = some (.int .i64 x)
theorem AR.set {b B k n cap g : Nat} {a w : World} {xs : List Value} (h : AR b B k n cap g a w xs) (i : Nat) (u : Value) : AR b B k n cap g a (w.setCell ⟨g, i * 6 + 1, none⟩ u) (xs.set (i * 6 + 1) u) := by
  have hb := h.base
  have hg := h.own.lt g rfl
  refine ⟨hb, h.db.set_ (by omega) _ u, h.only.new hg.1 u, (h.own.stored (i * 6 + 1) u).1, fun j hj => ?_⟩
  obtain ⟨x, hx⟩ := h.kinds j hj
  exact ⟨x, by rw [List.getElem?_set_ne (by omega)]; exact hx⟩
theorem AR.start {b B k cap g : Nat} {a w : World} {l : List PQ} (h : WS b B k a w (.slice (some ⟨g, 0, none⟩) l.length cap) l) : AR b B k l.length cap g a w (rowL l) :=
  ⟨h.base, h.db, h.only, h.own, fun j hj => ⟨l[j].kind, by have := rowL_at l j hj 0 (by decide); rw [Nat.add_zero] at this; exact this⟩⟩
/-- what the walk reads of piece i -/
theorem AR.look {b B k n cap g : Nat} {a w : World} {xs : List Value} (h : AR b B k n cap g a w xs) (i : Nat) (hi : i < n) : (∃ x : Int, w.cell? ⟨g, i * 6, none⟩ = some (.int .i64 x)) ∧ (∃ v, w.cell? ⟨g, i * 6 + 1, none⟩ = some v) ∧ (∀ j, w.frozen? ⟨g, j, none⟩ = false) ∧ g < w.heap.size := by
  obtain ⟨x, hx⟩ := h.kinds i hi
  have hl := h.own.1
  refine ⟨⟨x, (h.own.cellAt (i * 6) (by omega)).trans hx⟩, ⟨xs[i * 6 + 1]'(by omega), (h.own.cellAt (i * 6 + 1) (by omega)).trans (by simp)⟩, fun j => h.own.frozenAt j, (h.own.lt g rfl).2⟩

set_option maxRecDepth 100000 in
set_option maxHeartbeats 3200000 in
theorem argument_step (b B k C : Nat) (deep : Int) (sl : Bool) (w : World) (h : DB w b B k) (hk : k + C + 5 ≤ 4611686018427387904) (hW : CW b B C deep) :
    Calls Tryd.prog 48 #[.pointer (some ⟨b, 0, none⟩), .int .i64 deep, .bool sl] w (AP b B (k + C + 5) w) := by
  have HWD := Lib.hid hW
  have HW := Lib.hid h
  have HO := Lib.hid (Only.refl b w)
  clear h hW
  go_enter Tryd.func48, Tryd.ntmps48
  go_wp2_with fail
  refine (roll_b b B k 4 _ HW.out (by omega) (by omega) (by omega)).mono ?_
  rintro e w2 ⟨r, rfl, _, _, hd2, ho2⟩
  have HD2 := Lib.hid hd2
  have HO2 := Lib.hid ho2
  clear hd2 ho2 HO HW
  cases r0 : (r == 0) with
  | true =>
    go_wp2_with fail
    go_ret
    exact ⟨none, 0, 0, rfl, HD2.out.more' (by omega), HO2.out⟩
  | false =>
    go_wp2_with fail
    refine (roll_b b B (k + 1) 3 _ HD2.out (by omega) (by omega) (by omega)).mono ?_
    rintro e w3 ⟨r3, rfl, _, _, hd3, ho3⟩
    have HD3 := Lib.hid hd3
    have HO3 := Lib.hid (HO2.out.trans ho3)
    clear hd3 ho3 HD2 HO2
    cases r1 : (r3 == 0) with
    | false =>
      cases sl with
      | true =>
        go_wp2_with fail
        refine (of_b b B (k + 2) [⟨#[42]⟩, ⟨#[97]⟩, ⟨#[63]⟩, ⟨#[91, 97, 98, 93]⟩, ⟨#[98, 42]⟩, ⟨#[46]⟩] _ w3 HD3.out (by omega) (by decide) (by decide) rfl).mono ?_
        rintro e w4 ⟨s, rfl, _, hd4, ho4⟩
        have HD4 := Lib.hid hd4
        have HO4 := Lib.hid (HO3.out.trans ho4)
        clear hd4 ho4
        go_wp2_with fail
        refine (bare_any s w4).mono ?_
        rintro e w5 ⟨rfl, hb5⟩
        have HD5 := Lib.hid ((HD4.out.keep hb5).keep ((Below.refl _ w5).alloc (Nat.le_refl _) (.cells #[.int .i64 1, .string s, .slice none 0 0, .pointer none, .pointer none, .pointer none] 51)))
        have HO5 := Lib.hid ((HO4.out.keep hb5).keep ((Below.refl _ w5).alloc (Nat.le_refl _) (.cells #[.int .i64 1, .string s, .slice none 0 0, .pointer none, .pointer none, .pointer none] 51)))
        clear hb5
        go_wp2_with fail
        go_ret
        exact ⟨_, _, _, rfl, HD5.out.more' (by omega), HO5.out⟩
      | false =>
        go_wp2_with fail
        refine (of_b b B (k + 2) [⟨#[42]⟩, ⟨#[97, 32, 98]⟩, ⟨#[63]⟩, ⟨#[97, 42]⟩, ⟨#[47, 42]⟩, ⟨#[120, 47, 121]⟩, ⟨#[46, 42]⟩, ⟨#[59, 32, 124]⟩, ⟨#[126]⟩] _ w3 HD3.out (by omega) (by decide) (by decide) rfl).mono ?_
        rintro e w4 ⟨s, rfl, _, hd4, ho4⟩
        have HD4 := Lib.hid hd4
        have HO4 := Lib.hid (HO3.out.trans ho4)
        clear hd4 ho4
        go_wp2_with fail
        refine (bare_any s w4).mono ?_
        rintro e w5 ⟨rfl, hb5⟩
        have HD5 := Lib.hid ((HD4.out.keep hb5).keep ((Below.refl _ w5).alloc (Nat.le_refl _) (.cells #[.int .i64 1, .string s, .slice none 0 0, .pointer none, .pointer none, .pointer none] 51)))
        have HO5 := Lib.hid ((HO4.out.keep hb5).keep ((Below.refl _ w5).alloc (Nat.le_refl _) (.cells #[.int .i64 1, .string s, .slice none 0 0, .pointer none, .pointer none, .pointer none] 51)))
        clear hb5
        go_wp2_with fail
        go_ret
        exact ⟨_, _, _, rfl, HD5.out.more' (by omega), HO5.out⟩
    | true =>
      go_wp2_with fail
      refine (HWD.out _ (k + 2) HD3.out (by omega)).mono ?_
      rintro e w4 ⟨v, l, rfl, hl3, hs4⟩
      have HS4 := Lib.hid hs4
      obtain ⟨A, c, rfl, hA⟩ := hs4.form
      clear hs4
      cases sl with
      | false =>
        clear hA
        go_wp2_with fail
        go_ret
        exact ⟨_, _, _, rfl, HS4.out.db.more' (by omega), HO3.out.trans HS4.out.only⟩
      | true =>
        rcases Nat.eq_zero_or_pos l.length with hz | hz
        · clear hA
          have HDw := Lib.hid HS4.out.db
          have HOw := Lib.hid HS4.out.only
          clear HS4
          rw [hz]
          clear hz
          go_wp2_with fail
          go_loopw [23] (fun s23 wr => s23 = .int .i64 0 ∧ wr = w4) (fun _ _ => 0)
          case atStart => exact ⟨rfl, rfl⟩
          case round =>
            obtain ⟨rfl, rfl⟩ := hrel
            go_wp2_with fail
            go_ret
            exact ⟨_, _, _, rfl, HDw.out.more' (by omega), HO3.out.trans HOw.out⟩
        · obtain ⟨g, rfl⟩ := hA hz
          clear hA
          have HA4 := Lib.hid (AR.start HS4.out)
          clear HS4
          generalize rowL l = xs at *
          generalize l.length = n at *
          go_wp2_with fail
          go_loopw [23] (fun s23 wr => ∃ (i : Nat) (ys : List Value), s23 = .int .i64 (i : Int) ∧ i ≤ n ∧ Hid (AR b B (k + 2 + C) n c g w3 wr ys)) (fun s23 _ => n - (intOf s23).toNat)
          case atStart => exact ⟨0, xs, rfl, Nat.zero_le _, HA4.out⟩
          case round =>
            obtain ⟨i, ys, rfl, hi, HR⟩ := hrel
            by_cases hlt : i < n
            · obtain ⟨⟨x, c0⟩, ⟨v1, c1⟩, zz, lg⟩ := HR.out.look i hlt
              have HR2 := Lib.hid (HR.out.set i (.string ⟨#[112]⟩))
              cases x1 : (x == 1)
              · go_wp2_with fail
                go_roundw
                case rel => exact ⟨i + 1, ys, by go_num, by omega, HR⟩
                case measure => simp [intOf]; omega
              · go_wp2_with fail
                go_roundw
                case rel => exact ⟨i + 1, _, by go_num, by omega, HR2⟩
                case measure => simp [intOf]; omega
            · go_wp2_with fail
              go_ret
              exact ⟨_, _, _, rfl, HR.out.db.more' (by omega), HO3.out.trans HR.out.only⟩

end Go.Proofs.YtbgmjmooifjhjaaDoor
