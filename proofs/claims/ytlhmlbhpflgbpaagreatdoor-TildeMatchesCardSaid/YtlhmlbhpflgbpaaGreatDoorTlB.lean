/- TildeMatches: tilde and Tilde. -/
import Derived.Test.YtlhmlbhpflgbpaaGreatDoorTlA
namespace Go.Proofs.YtlhmlbhpflgbpaaGreatDoor
open Go.RowKit

set_option maxRecDepth 100000 in
theorem cut_any (t : ByteArray) (w : World) (hs : t.size ≤ 9223372036854775806) :
    Calls Tryz.prog 13 #[.string t, .string ⟨#[47]⟩] w (CutP t w) := by
  have HC := Lib.hid (scut_any t w hs)
  have HQ := Lib.hid (fun w' r f (h : Below w.heap.size w w') => (show CutP t w (.returned (.tuple #[.string (t.extract 0 (headT t)), .string r, .bool f])) w' from ⟨r, f, rfl, h⟩))
  unfold CutP at HC
  generalize CutP t w = Q at *
  generalize t.extract 0 (headT t) = x at *
  go_enter Tryz.func13, Tryz.ntmps13
  go_wp2_with (go_at_call 50; refine HC.out.mono ?_; rintro e w2 ⟨r, f, rfl, hb⟩)
  exact bodyPost_ret (v := .tuple #[.string x, .string r, .bool f]) (by simp [results, Tryz.results13, go_sem]) rfl (HQ.out _ _ _ hb)
/-- the name that a beginning stands for -/
def nameOfT (h : ByteArray) : Option ByteArray := if (h.toList == [126]) = true then some nHOME else if (h.toList == [126, 43]) = true then some nPWD else if (h.toList == [126, 45]) = true then some nOLD else none
def TildP (L : List VarV) (t : ByteArray) (w : World) (e : Ending) (w' : World) : Prop := ∃ r f, e = .returned (.tuple #[.string r, .bool f]) ∧ (match nameOfT t with
  | none => r = ⟨#[]⟩ ∧ f = false
  | some nm => r = (getD L nm).vl ∧ f = hasV L nm) ∧ Below w.heap.size w w'
theorem getD_il {L : List VarV} (h : ∀ v ∈ L, v.il = false) (t : ByteArray) : (getD L t).il = false := by
  cases hh : hasV L t
  · rw [getD_no hh]; rfl
  · obtain ⟨hl, hge, _⟩ := getD_yes hh
    rw [hge]
    exact h _ (List.getElem_mem hl)
set_option maxRecDepth 100000 in
set_option maxHeartbeats 3200000 in
theorem tilde_any (L : List VarV) (t : ByteArray) (A : Option Addr) (n c b : Nat) (w : World) (hc : w.cell? ⟨b, 2, none⟩ = some (.slice A n c)) (hb : b < w.heap.size) (hv : VL w (.slice A n c) L) (hr : Rises L) (hn : L.length ≤ 2000) (hil0 : ∀ v ∈ L, v.il = false) :
    Calls Tryz.prog 14 #[.pointer (some ⟨b, 0, none⟩), .string t] w (TildP L t w) := by
  obtain ⟨Q, hQ⟩ : ∃ Q, TildP L t w = Q := ⟨_, rfl⟩
  rw [hQ]
  have HQ0 := Lib.hid (fun e w' (h : TildP L t w e w') => (show Q e w' from hQ ▸ h))
  have hil := getD_il hil0
  clear hQ hil0
  cases h1 : (t.toList == [126])
  case true =>
    have hno : nameOfT t = some nHOME := by unfold nameOfT; rw [if_pos h1]
    have HG := Lib.hid (get_any L nHOME A n c b w hc hb hv hr hn)
    have HQ := Lib.hid (fun w' (h : Below w.heap.size w w') => HQ0.out (.returned (.tuple #[.string (getD L nHOME).vl, .bool (hasV L nHOME)])) w' ⟨_, _, rfl, by rw [hno]; exact ⟨rfl, rfl⟩, h⟩)
    have HI := Lib.hid (hil nHOME)
    clear hno HQ0 hc hb hv hr hn hil
    unfold GetP at HG
    generalize getD L nHOME = x at *
    generalize hasV L nHOME = f at *
    unfold nHOME at HG
    obtain ⟨xn, xv, xi, xl, xe, xf⟩ := x
    go_enter Tryz.func14, Tryz.ntmps14
    go_upto_region 11 with (go_at_call 51; refine HG.out.mono ?_; rintro e w2 ⟨⟨sA, sn, sc⟩, rfl, hs, hb2⟩; unfold aggV sv)
    have HEL : Hid (∀ W, Calls Tryz.prog 52 #[.agg #[.string xn, .string xv, .bool xi, .slice sA sn sc, .bool xe, .bool xf], .int .i64 0] W (ElemP ⟨xn, xv, xi, xl, xe, xf⟩ W)) := Lib.hid (fun W => element_any ⟨xn, xv, xi, xl, xe, xf⟩ (sA, sn, sc) W HI.out)
    have HB2 := Lib.hid (hb2.trans ((Below.refl w2.heap.size w2).alloc (Nat.le_refl _) (.cells #[.string xn, .string xv, .bool xi, .slice sA sn sc, .bool xe, .bool xf] 47) |>.mono hb2.size))
    clear hb2 hs
    go_wp2_with (go_at_call 52; refine (HEL.out _).mono ?_; rintro e w3 ⟨rfl, hb3⟩; have HB3 := Lib.hid (HB2.out.trans (hb3.mono HB2.out.size)); clear hb3)
    first | exact HQ.out _ HB3.out | exact bodyPost_ret (v := .tuple #[.string xv, .bool f]) (by simp [results, Tryz.results14, go_sem]) rfl (HQ.out _ HB3.out)
  cases h2 : (t.toList == [126, 43])
  case true =>
    have hno : nameOfT t = some nPWD := by unfold nameOfT; rw [if_neg (by rw [h1]; decide), if_pos h2]
    have HG := Lib.hid (get_any L nPWD A n c b w hc hb hv hr hn)
    have HQ := Lib.hid (fun w' (h : Below w.heap.size w w') => HQ0.out (.returned (.tuple #[.string (getD L nPWD).vl, .bool (hasV L nPWD)])) w' ⟨_, _, rfl, by rw [hno]; exact ⟨rfl, rfl⟩, h⟩)
    have HI := Lib.hid (hil nPWD)
    clear hno HQ0 hc hb hv hr hn hil
    unfold GetP at HG
    generalize getD L nPWD = x at *
    generalize hasV L nPWD = f at *
    unfold nPWD at HG
    obtain ⟨xn, xv, xi, xl, xe, xf⟩ := x
    go_enter Tryz.func14, Tryz.ntmps14
    go_upto_region 11 with (go_at_call 51; refine HG.out.mono ?_; rintro e w2 ⟨⟨sA, sn, sc⟩, rfl, hs, hb2⟩; unfold aggV sv)
    have HEL : Hid (∀ W, Calls Tryz.prog 52 #[.agg #[.string xn, .string xv, .bool xi, .slice sA sn sc, .bool xe, .bool xf], .int .i64 0] W (ElemP ⟨xn, xv, xi, xl, xe, xf⟩ W)) := Lib.hid (fun W => element_any ⟨xn, xv, xi, xl, xe, xf⟩ (sA, sn, sc) W HI.out)
    have HB2 := Lib.hid (hb2.trans ((Below.refl w2.heap.size w2).alloc (Nat.le_refl _) (.cells #[.string xn, .string xv, .bool xi, .slice sA sn sc, .bool xe, .bool xf] 47) |>.mono hb2.size))
    clear hb2 hs
    go_wp2_with (go_at_call 52; refine (HEL.out _).mono ?_; rintro e w3 ⟨rfl, hb3⟩; have HB3 := Lib.hid (HB2.out.trans (hb3.mono HB2.out.size)); clear hb3)
    first | exact HQ.out _ HB3.out | exact bodyPost_ret (v := .tuple #[.string xv, .bool f]) (by simp [results, Tryz.results14, go_sem]) rfl (HQ.out _ HB3.out)
  cases h3 : (t.toList == [126, 45])
  case true =>
    have hno : nameOfT t = some nOLD := by unfold nameOfT; rw [if_neg (by rw [h1]; decide), if_neg (by rw [h2]; decide), if_pos h3]
    have HG := Lib.hid (get_any L nOLD A n c b w hc hb hv hr hn)
    have HQ := Lib.hid (fun w' (h : Below w.heap.size w w') => HQ0.out (.returned (.tuple #[.string (getD L nOLD).vl, .bool (hasV L nOLD)])) w' ⟨_, _, rfl, by rw [hno]; exact ⟨rfl, rfl⟩, h⟩)
    have HI := Lib.hid (hil nOLD)
    clear hno HQ0 hc hb hv hr hn hil
    unfold GetP at HG
    generalize getD L nOLD = x at *
    generalize hasV L nOLD = f at *
    unfold nOLD at HG
    obtain ⟨xn, xv, xi, xl, xe, xf⟩ := x
    go_enter Tryz.func14, Tryz.ntmps14
    go_upto_region 11 with (go_at_call 51; refine HG.out.mono ?_; rintro e w2 ⟨⟨sA, sn, sc⟩, rfl, hs, hb2⟩; unfold aggV sv)
    have HEL : Hid (∀ W, Calls Tryz.prog 52 #[.agg #[.string xn, .string xv, .bool xi, .slice sA sn sc, .bool xe, .bool xf], .int .i64 0] W (ElemP ⟨xn, xv, xi, xl, xe, xf⟩ W)) := Lib.hid (fun W => element_any ⟨xn, xv, xi, xl, xe, xf⟩ (sA, sn, sc) W HI.out)
    have HB2 := Lib.hid (hb2.trans ((Below.refl w2.heap.size w2).alloc (Nat.le_refl _) (.cells #[.string xn, .string xv, .bool xi, .slice sA sn sc, .bool xe, .bool xf] 47) |>.mono hb2.size))
    clear hb2 hs
    go_wp2_with (go_at_call 52; refine (HEL.out _).mono ?_; rintro e w3 ⟨rfl, hb3⟩; have HB3 := Lib.hid (HB2.out.trans (hb3.mono HB2.out.size)); clear hb3)
    first | exact HQ.out _ HB3.out | exact bodyPost_ret (v := .tuple #[.string xv, .bool f]) (by simp [results, Tryz.results14, go_sem]) rfl (HQ.out _ HB3.out)
  have hno : nameOfT t = none := by unfold nameOfT; rw [if_neg (by rw [h1]; decide), if_neg (by rw [h2]; decide), if_neg (by rw [h3]; decide)]
  have HF := Lib.hid (HQ0.out (.returned (.tuple #[.string ⟨#[]⟩, .bool false])) w ⟨_, _, rfl, by rw [hno]; exact ⟨rfl, rfl⟩, Below.refl _ _⟩)
  clear hno HQ0 hc hb hv hr hn hil
  go_enter Tryz.func14, Tryz.ntmps14
  go_wp2_with fail
  first | exact HF.out | exact bodyPost_ret (v := .tuple #[.string ⟨#[]⟩, .bool false]) (by simp [results, Tryz.results14, go_sem]) rfl HF.out
end Go.Proofs.YtlhmlbhpflgbpaaGreatDoor
