/- TildeMatches, the reference: tilde and Tilde. -/
import Derived.Test.YtlhmlbhpflgbpaaGreatDoorTlW
namespace Go.Proofs.YtlhmlbhpflgbpaaGreatDoor
open Go.RowKit

theorem nameT_of {nm : ByteArray} (h : nm = nHOME ∨ nm = nPWD ∨ nm = nOLD) : NameT nm ∧ (nm.toList == []) = false := by
  rcases h with rfl | rfl | rfl
  · exact ⟨⟨by rw [ByteArray.toList_eq]; decide, by rw [ByteArray.toList_eq]; decide, by rw [ByteArray.toList_eq]; decide, by rw [ByteArray.toList_eq]; decide, by rw [ByteArray.toList_eq]; decide, by rw [ByteArray.toList_eq]; decide, by rw [ByteArray.toList_eq]; decide, by rw [ByteArray.toList_eq]; decide, by decide, by decide⟩, by rw [ByteArray.toList_eq]; decide⟩
  · exact ⟨⟨by rw [ByteArray.toList_eq]; decide, by rw [ByteArray.toList_eq]; decide, by rw [ByteArray.toList_eq]; decide, by rw [ByteArray.toList_eq]; decide, by rw [ByteArray.toList_eq]; decide, by rw [ByteArray.toList_eq]; decide, by rw [ByteArray.toList_eq]; decide, by rw [ByteArray.toList_eq]; decide, by decide, by decide⟩, by rw [ByteArray.toList_eq]; decide⟩
  · exact ⟨⟨by rw [ByteArray.toList_eq]; decide, by rw [ByteArray.toList_eq]; decide, by rw [ByteArray.toList_eq]; decide, by rw [ByteArray.toList_eq]; decide, by rw [ByteArray.toList_eq]; decide, by rw [ByteArray.toList_eq]; decide, by rw [ByteArray.toList_eq]; decide, by rw [ByteArray.toList_eq]; decide, by decide, by decide⟩, by rw [ByteArray.toList_eq]; decide⟩
theorem nameT_some {h nm : ByteArray} (hn : nameOfT h = some nm) : NameT nm ∧ (nm.toList == []) = false := by
  refine nameT_of ?_
  unfold nameOfT at hn
  split at hn
  · exact .inl (Option.some.inj hn).symm
  · split at hn
    · exact .inr (.inl (Option.some.inj hn).symm)
    · split at hn
      · exact .inr (.inr (Option.some.inj hn).symm)
      · cases hn
def RTildP (L : List VarV) (t : ByteArray) (w : World) (e : Ending) (w' : World) : Prop := ∃ a b f, e = .returned (.tuple #[.string a, .string b, .bool f]) ∧ (match nameOfT (t.extract 0 (headT t)) with
  | none => f = false
  | some nm => if hasV L nm = true then f = true ∧ a = (getD L nm).vl ∧ b = t.extract (headT t) t.size else f = false) ∧ Below w.heap.size w w'
set_option maxRecDepth 100000 in
set_option maxHeartbeats 3200000 in
theorem rtilde_any (L : List VarV) (t : ByteArray) (A : Option Addr) (n c b : Nat) (w : World) (hc : w.cell? ⟨b, 2, none⟩ = some (.slice A n c)) (hb : b < w.heap.size) (hv : VL w (.slice A n c) L) (hr : Rises L) (hn : L.length ≤ 2000) (hil : ∀ v ∈ L, v.il = false) (hs : t.size ≤ 9223372036854775806) :
    Calls Tryz.prog 54 #[.pointer (some ⟨b, 0, none⟩), .string t] w (RTildP L t w) := by
  obtain ⟨Q, hQ⟩ : ∃ Q, RTildP L t w = Q := ⟨_, rfl⟩
  rw [hQ]
  have HQ := Lib.hid (fun e w' (h : RTildP L t w e w') => (show Q e w' from hQ ▸ h))
  have HI : Hid (∀ W, Calls Tryz.prog 23 #[.string t, .int .u8 47] W fun e w' => e = .returned (.int .i64 (Lib.indexByte t.data.toList 47)) ∧ W = w') := Lib.hid (fun W => (Tryz.strings_IndexByte t 47 W).mono fun _ _ h => ⟨h.1, h.2.symm⟩)
  have HVA := Lib.hid (fun nm (hnm : NameT nm) W (hw : Below w.heap.size w W) => value_any L nm hnm A n c b W ((hw.cell (p := ⟨b, 2, none⟩) hb).trans hc) (Nat.lt_of_lt_of_le hb hw.size) (hv.keep hw) hr hn hil)

  have hle := headT_le t
  clear hQ hc hb hv hr hn hil
  by_cases hd : 0 ≤ Lib.indexByte t.data.toList 47
  · obtain ⟨i, hi⟩ := Int.eq_ofNat_of_zero_le hd
    have hh : headT t = i := by unfold headT; rw [if_pos hd, hi]; rfl
    rw [hh] at hle
    rw [hi] at HI
    have b0 : (i : Int) ≥ 0 := by omega
    have b1 : 0 ≤ (i : Int) := by omega
    have b2 : (i : Int) ≤ (t.size : Int) := by omega
    have HS := Lib.hid hs
    clear hi hd hs
    go_enter Tryz.func54, Tryz.ntmps54
    go_upto_region 4 with (go_at_call 23; refine (HI.out _).mono ?_; rintro e w2 ⟨rfl, rfl⟩)
    go_region
    have hmm := @run_makeMap Tryz.prog
    obtain ⟨W1, hW1⟩ : ∃ W1, W1 = w.drew := ⟨_, rfl⟩
    have HB1 : Hid (Below w.heap.size w W1) := Lib.hid (by rw [hW1]; exact (Below.refl _ w).drew)
    rw [← hW1]
    clear hW1
    obtain ⟨W2, W3, W4, q1, q2, q3, q4, hb4⟩ := map_all W1 (t.extract 0 i)
    unfold kA nHOME at q1
    unfold kB nPWD at q2
    unfold kC nOLD at q3
    have HB4 := Lib.hid (HB1.out.trans (hb4.mono HB1.out.size))
    clear hb4
    cases hno : nameOfT (t.extract 0 i) with
    | none =>
      have HF := Lib.hid (HQ.out (.returned (.tuple #[.string ⟨#[]⟩, .string ⟨#[]⟩, .bool false])) W4 ⟨_, _, _, rfl, by rw [hh, hno], HB4.out⟩)
      rw [show nameS (t.extract 0 i) = ⟨#[]⟩ by unfold nameS; rw [hno]] at q4
      clear hno hh
      go_wp2_with fail
      first | exact HF.out | exact bodyPost_ret (v := .tuple #[.string ⟨#[]⟩, .string ⟨#[]⟩, .bool false]) (by simp [results, Tryz.results54, go_sem]) rfl HF.out
    | some nm =>
      obtain ⟨hnt, hne⟩ := nameT_some hno
      have HV := Lib.hid (HVA.out nm hnt W4 HB4.out)
      rw [show nameS (t.extract 0 i) = nm by unfold nameS; rw [hno]] at q4
      have HO := Lib.hid hno
      clear hno hnt HVA
      unfold ValP at HV
      cases hhs : hasV L nm
      · simp only [hhs] at HV
        go_upto_region 9 with (go_at_call 85; refine HV.out.mono ?_; rintro e w5 ⟨rfl, hb5⟩)
        have HF := Lib.hid (HQ.out (.returned (.tuple #[.string ⟨#[]⟩, .string ⟨#[]⟩, .bool false])) w5 ⟨_, _, _, rfl, by rw [hh, HO.out]; simp [hhs], HB4.out.trans (hb5.mono HB4.out.size)⟩)
        clear hb5 hh hhs
        go_wp2_with fail
        first | exact HF.out | exact bodyPost_ret (v := .tuple #[.string ⟨#[]⟩, .string ⟨#[]⟩, .bool false]) (by simp [results, Tryz.results54, go_sem]) rfl HF.out
      · simp only [hhs] at HV
        go_upto_region 9 with (go_at_call 85; refine HV.out.mono ?_; rintro e w5 ⟨⟨g, rfl, hg1, hg2⟩, hb5⟩)
        have HF := Lib.hid (HQ.out (.returned (.tuple #[.string (getD L nm).vl, .string (t.extract i t.size), .bool true])) w5 ⟨_, _, _, rfl, by rw [hh, HO.out]; simp only [hhs, if_true]; exact ⟨trivial, trivial, trivial⟩, HB4.out.trans (hb5.mono HB4.out.size)⟩)
        clear hb5 hh hhs
        generalize (getD L nm).vl = vl at *
        go_wp2_with fail
        first | exact HF.out | exact bodyPost_ret (v := .tuple #[.string vl, .string (t.extract i t.size), .bool true]) (by simp [results, Tryz.results54, go_sem]) rfl HF.out
  · have hh : headT t = t.size := by unfold headT; rw [if_neg hd]
    have hx : t.extract 0 t.size = t := by simp
    have hx2 : t.extract t.size t.size = ⟨#[]⟩ := by simp; rfl
    obtain ⟨ix, hix⟩ : ∃ ix, ix = Lib.indexByte t.data.toList 47 := ⟨_, rfl⟩
    rw [← hix] at HI hd
    have hd2 : ¬ ix ≥ 0 := hd
    have HS := Lib.hid hs
    have HX := Lib.hid (And.intro hx hx2)
    clear hix hx hx2 hle hs
    go_enter Tryz.func54, Tryz.ntmps54
    go_upto_region 5 with (go_at_call 23; refine (HI.out _).mono ?_; rintro e w2 ⟨rfl, rfl⟩)
    have hmm := @run_makeMap Tryz.prog
    obtain ⟨W1, hW1⟩ : ∃ W1, W1 = w := ⟨_, rfl⟩
    have HB1 : Hid (Below w.heap.size w W1) := Lib.hid (by rw [hW1]; exact Below.refl _ _)
    rw [← hW1]
    clear hW1
    obtain ⟨W2, W3, W4, q1, q2, q3, q4, hb4⟩ := map_all W1 t
    unfold kA nHOME at q1
    unfold kB nPWD at q2
    unfold kC nOLD at q3
    have HB4 := Lib.hid (HB1.out.trans (hb4.mono HB1.out.size))
    clear hb4
    cases hno : nameOfT t with
    | none =>
      have HF := Lib.hid (HQ.out (.returned (.tuple #[.string ⟨#[]⟩, .string ⟨#[]⟩, .bool false])) W4 ⟨_, _, _, rfl, by rw [hh, HX.out.1, hno], HB4.out⟩)
      rw [show nameS t = ⟨#[]⟩ by unfold nameS; rw [hno]] at q4
      clear hno hh
      go_wp2_with fail
      first | exact HF.out | exact bodyPost_ret (v := .tuple #[.string ⟨#[]⟩, .string ⟨#[]⟩, .bool false]) (by simp [results, Tryz.results54, go_sem]) rfl HF.out
    | some nm =>
      obtain ⟨hnt, hne⟩ := nameT_some hno
      have HV := Lib.hid (HVA.out nm hnt W4 HB4.out)
      rw [show nameS t = nm by unfold nameS; rw [hno]] at q4
      have HO := Lib.hid hno
      clear hno hnt HVA
      unfold ValP at HV
      cases hhs : hasV L nm
      · simp only [hhs] at HV
        go_upto_region 9 with (go_at_call 85; refine HV.out.mono ?_; rintro e w5 ⟨rfl, hb5⟩)
        have HF := Lib.hid (HQ.out (.returned (.tuple #[.string ⟨#[]⟩, .string ⟨#[]⟩, .bool false])) w5 ⟨_, _, _, rfl, by rw [hh, HX.out.1, HO.out]; simp [hhs], HB4.out.trans (hb5.mono HB4.out.size)⟩)
        clear hb5 hh hhs
        go_wp2_with fail
        first | exact HF.out | exact bodyPost_ret (v := .tuple #[.string ⟨#[]⟩, .string ⟨#[]⟩, .bool false]) (by simp [results, Tryz.results54, go_sem]) rfl HF.out
      · simp only [hhs] at HV
        go_upto_region 9 with (go_at_call 85; refine HV.out.mono ?_; rintro e w5 ⟨⟨g, rfl, hg1, hg2⟩, hb5⟩)
        have HF := Lib.hid (HQ.out (.returned (.tuple #[.string (getD L nm).vl, .string ⟨#[]⟩, .bool true])) w5 ⟨_, _, _, rfl, by rw [hh, HX.out.1, HO.out]; simp only [hhs, if_true]; exact ⟨trivial, trivial, HX.out.2.symm⟩, HB4.out.trans (hb5.mono HB4.out.size)⟩)
        clear hb5 hh hhs
        generalize (getD L nm).vl = vl at *
        go_wp2_with fail
        first | exact HF.out | exact bodyPost_ret (v := .tuple #[.string vl, .string ⟨#[]⟩, .bool true]) (by simp [results, Tryz.results54, go_sem]) rfl HF.out
end Go.Proofs.YtlhmlbhpflgbpaaGreatDoor
