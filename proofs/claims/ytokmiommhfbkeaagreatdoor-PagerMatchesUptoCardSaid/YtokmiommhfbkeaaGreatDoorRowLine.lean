/- Rows: the program divides a line: each byte's piece is put, a tab is put as blanks up to the next eighth column, and the last row is closed. -/
import Derived.Test.YtokmiommhfbkeaaGreatDoorRower
namespace Go.Proofs.YtokmiommhfbkeaaGreatDoor
open Go.RowKit

abbrev St := List ByteArray × List Int × List UInt8
/-- k blanks -/
def tabR (wide n : Int) : Nat → St → St
  | 0, x => x
  | k + 1, x => putR wide n [32] (tabR wide n k x)
/-- a byte -/
def byteR (wide n : Int) (y : St × Nat) (c : UInt8) : St × Nat :=
  if c = 9 then (tabR wide n (8 - y.2 % 8) y.1, y.2 + (8 - y.2 % 8)) else (putR wide n (shownB c) y.1, y.2 + (shownB c).length)
def lineF (wide n : Int) (l : List UInt8) (x : St) : St × Nat := l.foldl (byteR wide n) (x, 0)
def closeR (n : Int) (x : St) : St := (x.1 ++ [⟨x.2.2.toArray⟩], x.2.1 ++ [n], [])
def lineR (wide n : Int) (l : List UInt8) (x : St) : St := closeR n (lineF wide n l x).1

/-- how great a state may be -/
def Fits (wide : Int) (a : Nat) (x : St) : Prop := x.1.length ≤ a ∧ x.2.1.length ≤ a ∧ (x.2.2.length : Int) ≤ wide
theorem Fits.put {wide n : Int} {a : Nat} {x : St} {s : List UInt8} (h : Fits wide a x) (hs : (s.length : Int) ≤ wide) : Fits wide (a + 1) (putR wide n s x) := by
  obtain ⟨h1, h2, h3⟩ := h
  unfold putR
  split
  · exact ⟨by simp; omega, by simp; omega, hs⟩
  · exact ⟨by simp; omega, by simp; omega, by simp; omega⟩
theorem Fits.mono {wide : Int} {a b : Nat} {x : St} (h : Fits wide a x) (hab : a ≤ b) : Fits wide b x := ⟨Nat.le_trans h.1 hab, Nat.le_trans h.2.1 hab, h.2.2⟩
theorem Fits.tab {wide n : Int} {a : Nat} {x : St} (h : Fits wide a x) (hw : 2 ≤ wide) : ∀ k, Fits wide (a + k) (tabR wide n k x)
  | 0 => h
  | k + 1 => (Fits.tab h hw k).put (by simp; omega)
theorem shown_len (c : UInt8) : 1 ≤ (shownB c).length ∧ (shownB c).length ≤ 2 := by unfold shownB; split <;> (try split) <;> simp
theorem Fits.byte {wide n : Int} {a : Nat} {y : St × Nat} {c : UInt8} (h : Fits wide a y.1) (hw : 2 ≤ wide) : Fits wide (a + 8) (byteR wide n y c).1 ∧ (byteR wide n y c).2 ≤ y.2 + 8 := by
  unfold byteR
  have := shown_len c
  split
  · exact ⟨(h.tab hw _).mono (by omega), by simp⟩
  · exact ⟨(h.put (by omega)).mono (by omega), by simp; omega⟩
theorem Fits.line {wide n : Int} (hw : 2 ≤ wide) : ∀ (l : List UInt8) (a : Nat) (y : St × Nat), Fits wide a y.1 → Fits wide (a + 8 * l.length) (l.foldl (byteR wide n) y).1 ∧ (l.foldl (byteR wide n) y).2 ≤ y.2 + 8 * l.length
  | [], a, y, h => ⟨h, by simp⟩
  | c :: l, a, y, h => by
    obtain ⟨h1, h2⟩ := h.byte (n := n) (c := c) hw
    obtain ⟨h3, h4⟩ := Fits.line hw l (a + 8) _ h1
    simp only [List.foldl_cons, List.length_cons]
    exact ⟨h3.mono (by omega), by omega⟩
theorem lineF_step (wide n : Int) (t : ByteArray) (k : Nat) (hk : k < t.size) (x : St) : lineF wide n (t.data.toList.take (k + 1)) x = byteR wide n (lineF wide n (t.data.toList.take k) x) t[k] := by
  have hk' : k < t.data.toList.length := by simpa using hk
  unfold lineF
  rw [List.take_succ_eq_append_getElem hk', List.foldl_append]
  rfl
theorem put_full {wide n : Int} {x : St} {s : List UInt8} (hs : 1 ≤ s.length) : (putR wide n s x).2.2 ≠ [] := by
  unfold putR
  split
  · intro e; simp at e; subst e; simp at hs
  · intro e; simp at e; obtain ⟨_, rfl⟩ := e; simp at hs
theorem tab_full {wide n : Int} {x : St} : ∀ {k}, 0 < k → (tabR wide n k x).2.2 ≠ []
  | k + 1, _ => put_full (by simp)
theorem byte_full {wide n : Int} {y : St × Nat} {c : UInt8} : (byteR wide n y c).1.2.2 ≠ [] := by
  unfold byteR
  split
  · exact tab_full (by omega)
  · exact put_full (shown_len c).1
theorem line_full {wide n : Int} {l : List UInt8} {x : St} (h : l ≠ []) : (lineF wide n l x).1.2.2 ≠ [] := by
  obtain ⟨m, c, rfl⟩ := List.eq_nil_or_concat l |>.resolve_left h
  unfold lineF
  rw [List.concat_eq_append, List.foldl_append]
  exact byte_full

theorem RW.keep {w w' : World} {B b : Nat} {wide : Int} {x : St} (h : RW w B b wide x) (hb : Below w.heap.size w w') : RW w' B b wide x := by
  obtain ⟨hBb, v1, v2, hk, o1, o2⟩ := h
  have hg : w.grownBy w' none := ⟨hb.os, hb.tape, hb.output, hb.size, fun k hk _ => hb.block k hk⟩
  exact ⟨hBb, v1, v2, (hb.block b (lt_some hk)).trans hk, o1.kept hg (by cases v1.ownBlock <;> simp), o2.kept hg (by cases v2.ownBlock <;> simp)⟩
theorem Deb.keepB {B : Nat} {w w' : World} (h : Deb w) (hB : 7 < B) (hb : Below B w w') : Deb w' := by
  unfold Deb at *
  rw [hb.cell (p := ⟨7, 15, none⟩) hB]
  exact h

set_option maxRecDepth 100000 in
set_option maxHeartbeats 3200000 in
theorem line_any (w : World) (B b : Nat) (wide n : Int) (x : St) (t : ByteArray) (a : Nat) (h : RW w B b wide x) (hd : Deb w) (hgB : 7 < B) (hBw : B ≤ w.heap.size) (hw : 2 ≤ wide) (hw2 : wide ≤ 200) (hF : Fits wide a x) (ha : a + 8 * t.size ≤ 3999999999000) :
    Calls Tryz.prog 121 #[.pointer (some ⟨b, 0, none⟩), .string t, .int .i64 n] w fun e w' => e = .returned (.tuple #[]) ∧ Below B w w' ∧ RW w' B b wide (lineR wide n t.data.toList x) := by
  have HF := Lib.hid (fun k => (Fits.line (n := n) hw (t.data.toList.take k) a (x, 0) hF))
  go_enter Tryz.func121, Tryz.ntmps121
  go_wp2_with fail
  go_loopw [6, 11] (fun col i wr => ∃ k : Nat, k ≤ t.size ∧ i = .int .i64 k ∧ col = .int .i64 ((lineF wide n (t.data.toList.take k) x).2 : Nat) ∧ Below B w wr ∧ RW wr B b wide (lineF wide n (t.data.toList.take k) x).1) (fun _ i _ => t.size - (intOf i).toNat)
  case atStart => exact ⟨0, Nat.zero_le _, rfl, by simp [lineF], Below.refl _ _, by simpa [lineF] using h⟩
  case round =>
    obtain ⟨k, hk, rfl, rfl, hbw, hrw⟩ := hrel
    have hlen : (t.data.toList.take k).length = k := by rw [List.length_take, size_toList]; omega
    have hB8 := HF.out k
    rw [hlen] at hB8
    change Fits wide (a + 8 * k) (lineF wide n (t.data.toList.take k) x).1 ∧ (lineF wide n (t.data.toList.take k) x).2 ≤ 0 + 8 * k at hB8
    obtain ⟨hf, hc⟩ := hB8
    clear hlen HF
    by_cases hlt : k < t.size
    · have hst := Lib.hid (lineF_step wide n t k hlt x)
      have hS := Lib.hid (fun W (hb : Below B w W) => shown_any t[k] W (hd.keepB hgB hb))
      have hP := Lib.hid (fun W y s (h : RW W B b wide y) (h1 : Fits wide (a + 8 * k + 7) y) (h4 : s.length ≤ 1000) => put_any W B b wide n y s h (by have := h1.1; omega) (by have := h1.2.1; omega) (by have := h1.2.2; omega) h4)
      generalize lineF wide n (t.data.toList.take k) x = y at *
      obtain ⟨X, C⟩ := y
      dsimp only at *
      by_cases h9 : t[k] = 9
      · have hne1 : ((t[k].toNat : Int) != 9) = false := by rw [h9]; rfl
        have hstep : byteR wide n (X, C) t[k] = (tabR wide n (8 - C % 8) X, C + (8 - C % 8)) := by unfold byteR; rw [if_pos h9]
        have hst2 := Lib.hid (hst.out.trans hstep)
        clear hst hstep h9 hS
        have HW := Lib.hid hrw
        have HF := Lib.hid hf
        clear hrw hf
        go_wp2_with fail
        go_loopw [6, 8] (fun col fst wq => ∃ j m : Nat, j ≤ 8 - C % 8 ∧ m = C + j ∧ col = .int .i64 m ∧ fst = .bool (j == 0) ∧ Below B w wq ∧ RW wq B b wide (tabR wide n j X)) (fun col _ _ => C + 8 - (intOf col).toNat)
        case atStart => exact ⟨0, C, Nat.zero_le _, rfl, rfl, rfl, hbw, HW.out⟩
        case round =>
          obtain ⟨j, m, hj, hm, rfl, rfl, hbq, hrq⟩ := hrel
          have HJ := Lib.hid (hP.out _ (tabR wide n j X) [32] hrq)
          have HT := Lib.hid (HF.out.tab (n := n) hw j)
          have HQ := Lib.hid hrq
          have HM := Lib.hid hm
          have hmC : m ≤ C + 8 := by omega
          clear hrq
          by_cases hlast : j = 8 - C % 8
          · have hj0 : (j == 0) = false := by rw [beq_eq_false_iff_ne]; omega
            have hm8 : ((m : Int) % 8 == 0) = true := by rw [beq_iff_eq]; omega
            rw [hj0]
            clear hm
            go_wp2_with fail
            exact ⟨⟨k + 1, by omega, by go_num, by rw [hst2.out, HM.out, hlast], hbq, by rw [hst2.out, ← hlast]; exact HQ.out⟩, by simp [intOf]; omega⟩
          · have hput : tabR wide n (j + 1) X = putR wide n [32] (tabR wide n j X) := rfl
            have hj1 : (j + 1 == 0) = false := by rw [beq_eq_false_iff_ne]; omega
            by_cases hz : j = 0
            · have hj0 : (j == 0) = true := by rw [hz]; rfl
              rw [hj0]
              clear hm hz
              go_wp2_with fail
              refine (HJ.out (HT.out.mono (by omega)) (by simp)).mono ?_
              rintro e w2 ⟨rfl, hb2, hrw2⟩
              have HR2 := Lib.hid hrw2
              clear hrw2
              go_wp2_with fail
              go_roundw
              case rel => exact ⟨j + 1, m + 1, by omega, by rw [HM.out]; omega, by go_num, by rw [hj1], hbq.trans hb2, by rw [hput]; exact HR2.out⟩
              case measure => have := HM.out; simp [intOf]; omega
            · have hj0 : (j == 0) = false := by rw [beq_eq_false_iff_ne]; omega
              have hm8 : ((m : Int) % 8 == 0) = false := by rw [beq_eq_false_iff_ne]; omega
              rw [hj0]
              clear hm hz
              go_wp2_with fail
              refine (HJ.out (HT.out.mono (by omega)) (by simp)).mono ?_
              rintro e w2 ⟨rfl, hb2, hrw2⟩
              have HR2 := Lib.hid hrw2
              clear hrw2
              go_wp2_with fail
              go_roundw
              case rel => exact ⟨j + 1, m + 1, by omega, by rw [HM.out]; omega, by go_num, by rw [hj1], hbq.trans hb2, by rw [hput]; exact HR2.out⟩
              case measure => have := HM.out; simp [intOf]; omega
      · have hne1 : ((t[k].toNat : Int) == 9) = false := by
          rw [beq_eq_false_iff_ne]; intro e; exact h9 (UInt8.toNat_inj.mp (by show t[k].toNat = 9; omega))
        have hstep : byteR wide n (X, C) t[k] = (putR wide n (shownB t[k]) X, C + (shownB t[k]).length) := by unfold byteR; rw [if_neg h9]
        have hsl := shown_len t[k]
        have hst2 := Lib.hid (hst.out.trans hstep)
        clear hst hstep h9
        generalize shownB t[k] = sb at *
        have HW := Lib.hid hrw
        have HF := Lib.hid hf
        clear hrw hf
        go_wp2_with fail
        refine (hS.out _ hbw).mono ?_
        rintro e w1 ⟨rfl, hb1⟩
        go_wp2_with fail
        refine (hP.out w1 X sb (HW.out.keep hb1) (HF.out.mono (by omega)) (by omega)).mono ?_
        rintro e w2 ⟨rfl, hb2, hrw2⟩
        have hbw2 : Below B w w2 := (hbw.trans (hb1.mono (Nat.le_trans hBw hbw.size))).trans hb2
        go_wp2_with fail
        refine (hS.out _ hbw2).mono ?_
        rintro e w3 ⟨rfl, hb3⟩
        have hbw3 : Below B w w3 := hbw2.trans (hb3.mono (Nat.le_trans hBw hbw2.size))
        have HW3 := Lib.hid (hrw2.keep hb3)
        clear hb1 hb2 hb3 hrw2 hbw2 HW
        go_wp2_with fail
        go_roundw
        case rel => exact ⟨k + 1, by omega, by go_num, by rw [hst2.out]; go_num, hbw3, by rw [hst2.out]; exact HW3.out⟩
        case measure => simp [intOf]; omega
    · obtain rfl : k = t.size := by omega
      rw [show t.data.toList.take t.size = t.data.toList from List.take_of_length_le (by rw [size_toList]; omega)] at *
      have hl := Lib.hid (show lineR wide n t.data.toList x = closeR n (lineF wide n t.data.toList x).1 from rfl)
      have hfull := fun h : t.data.toList ≠ [] => line_full (wide := wide) (n := n) (x := x) h
      generalize lineF wide n t.data.toList x = y at *
      obtain ⟨X, C⟩ := y
      dsimp only at *
      have hCl := Lib.hid (fun W (hW : RW W B b wide X) => close_any W B b wide n X hW (by have := hf.1; omega) (by have := hf.2.1; omega))
      have HW := Lib.hid hrw
      obtain ⟨v1, v2, cc, zz⟩ := rw_cells hrw
      clear hrw hf hc
      by_cases hr0 : X.2.2 = []
      · have ht0 : t.data.toList = [] := Classical.byContradiction fun h => hfull h hr0
        obtain rfl : t = ⟨#[]⟩ := by apply ByteArray.ext; apply Array.ext'; simpa using ht0
        rw [hr0] at cc
        clear hfull
        go_wp2_with fail
        refine (hCl.out wr HW.out).mono ?_
        rintro e w2 ⟨rfl, hb2, hrw2⟩
        clear cc zz
        go_wp2
        go_end0
        exact ⟨rfl, hbw.trans hb2, by rw [hl.out]; exact hrw2⟩
      · have hne : X.2.2.isEmpty = false := by simpa using hr0
        clear hfull hr0
        generalize hrr : X.2.2 = rr at *
        have HR := Lib.hid hrr
        clear hrr
        go_wp2_with fail
        refine (hCl.out wr HW.out).mono ?_
        rintro e w2 ⟨rfl, hb2, hrw2⟩
        clear cc zz
        go_wp2
        go_end0
        exact ⟨rfl, hbw.trans hb2, by rw [hl.out]; unfold closeR; rw [HR.out]; exact hrw2⟩

end Go.Proofs.YtokmiommhfbkeaaGreatDoor
