/- The program's editor, in its box: the history, and a change taken back. -/
import Derived.Test.YtokmiommhfbkeaaGreatDoorEditD
import Derived.Test.YtokmiommhfbkeaaGreatDoorEditR
namespace Go.Proofs.YtokmiommhfbkeaaGreatDoor
open Go.RowKit

theorem Turned.below {w w1 : World} {b B : Nat} {cs : Array Value} (h : Turned w b cs w1) (hB : B ≤ b) (hw : B ≤ w.heap.size) : Below B w w1 :=
  ⟨h.1.os, h.1.tape, h.1.output, h.1.size, fun i hi => h.1.block i (by omega) (by intro e; injection e; omega)⟩

set_option maxRecDepth 100000 in
set_option maxHeartbeats 3200000 in
theorem place_any (d : ED) (bv hv : Value) (place n goal : Int) (begun : ByteArray) (b : Nat) (w w0 : World) (h : Box w b (edC d bv place begun hv)) (hs : List ByteArray) (hh : SL w0 hv hs) (hb0 : Below w0.heap.size w0 w) (hbb : w0.heap.size ≤ b)
    (hl : hs.length ≤ 200) (hp1 : 0 ≤ place) (hp2 : place ≤ 200) (hn1 : -1 ≤ n) (hn2 : n ≤ 1) (hg : place + n = goal) (ht : d.text.size ≤ 1000) :
    Calls Tryz.prog 34 #[.pointer (some ⟨b, 0, none⟩), .int .i64 n] w fun e w' => e = .returned (.tuple #[]) ∧
      Turned w b (if withinB goal 0 hs.length = false then edC d bv place begun hv else
        edC ⟨if 0 < goal then hs.getD (hs.length - goal.toNat) ⟨#[]⟩ else if place = 0 then d.text else begun, (if 0 < goal then hs.getD (hs.length - goal.toNat) ⟨#[]⟩ else if place = 0 then d.text else begun).size, d.killed, d.killing⟩
          (.slice none 0 0) goal (if place = 0 then d.text else begun) hv) w' := by
  obtain ⟨text, a, killed, killing⟩ := d
  dsimp only at *
  obtain ⟨cc, zz⟩ := h.cell
  have HB := Lib.hid h
  clear h
  obtain ⟨A, c, rfl, hc, hcells⟩ := hh
  have HC := Lib.hid hcells
  have HB0 := Lib.hid hb0
  clear hcells hb0
  cases hw : withinB goal 0 hs.length
  · rw [if_pos rfl]
    go_enter Tryz.func34, Tryz.ntmps34
    go_wp2_with (go_at_call 53; refine (within_any _ _ _ _).mono ?_; rintro e w' ⟨rfl, rfl⟩)
    refine bodyPost_ret (results_none rfl _ _ _) rfl ?_
    exact ⟨rfl, Turned.refl HB.out⟩
  · rw [if_neg (by simp)]
    have hgr : 0 ≤ goal ∧ goal ≤ hs.length := by simp [withinB] at hw; exact hw
    obtain ⟨hg1, hg2⟩ := hgr
    by_cases hgo : 0 < goal
    · rw [if_pos hgo]
      obtain ⟨k, hk⟩ : ∃ k : Nat, (hs.length : Int) - goal = (k : Int) := ⟨hs.length - goal.toNat, by omega⟩
      have hkl : k < hs.length := by omega
      have hk0 : (0 : Int) ≤ (hs.length : Int) - goal := by omega
      have hkn : ((hs.length : Int) - goal).toNat = k := by omega
      have hk3 : (hs.length : Int) - goal < hs.length := by omega
      have hk2 := Lib.hid (show hs.length - goal.toNat = k by omega)
      rw [hk2.out, show hs.getD k ⟨#[]⟩ = hs[k] by simp [List.getD_eq_getElem?_getD, hkl]]
      obtain ⟨b2, off2, rfl, hlt2, hcell⟩ := HC.out (by omega)
      have hck := Lib.hid (fun W (hW : Below w0.heap.size w0 W) => (hW.cell (p := ⟨b2, off2 + k, none⟩) hlt2).trans (hcell k hkl))
      clear HC hcell hk
      generalize hs[k] = line at *
      by_cases hpl : place = 0
      · rw [if_pos hpl]
        have e1 : (place == 0) = true := by rw [beq_iff_eq]; exact hpl
        clear hpl
        go_enter Tryz.func34, Tryz.ntmps34
        go_wp2_with (go_at_call 53; refine (within_any _ _ _ _).mono ?_; rintro e w' ⟨rfl, rfl⟩)
        have hT : Turned w b (edC ⟨text, a, killed, killing⟩ bv goal text (.slice (some ⟨b2, off2, none⟩) hs.length c)) (((w.setCell ⟨b, 6, none⟩ (.string text)).setCell ⟨b, 5, none⟩ (.int .i64 goal)).setCell ⟨b, 0, none⟩ (.string text)) := (((Turned.refl HB.out).set 6 _).set 5 _).set 0 _
        generalize ((w.setCell ⟨b, 6, none⟩ (.string text)).setCell ⟨b, 5, none⟩ (.int .i64 goal)).setCell ⟨b, 0, none⟩ (.string text) = w2 at *
        have hcl := hck.out w2 (HB0.out.trans (hT.below hbb HB0.out.size))
        obtain ⟨c2, z2⟩ := hT.2.cell
        have HT := Lib.hid hT
        have e2 : IntKind.i64.wrap ((hs.length : Int) - goal) = (hs.length : Int) - goal := IntWalk.i64_in _ (by omega)
        clear cc zz hT hck
        go_still_tail 17, (by kernel_rfl)
        go_wp2
        go_end0
        exact ⟨rfl, (((HT.out.set 0 _).drew).set 1 _).set 4 _⟩
      · rw [if_neg hpl]
        have e1 : (place == 0) = false := by rw [beq_eq_false_iff_ne]; exact hpl
        clear hpl
        go_enter Tryz.func34, Tryz.ntmps34
        go_wp2_with (go_at_call 53; refine (within_any _ _ _ _).mono ?_; rintro e w' ⟨rfl, rfl⟩)
        have hT : Turned w b (edC ⟨begun, a, killed, killing⟩ bv goal begun (.slice (some ⟨b2, off2, none⟩) hs.length c)) ((w.setCell ⟨b, 5, none⟩ (.int .i64 goal)).setCell ⟨b, 0, none⟩ (.string begun)) := ((Turned.refl HB.out).set 5 _).set 0 _
        generalize (w.setCell ⟨b, 5, none⟩ (.int .i64 goal)).setCell ⟨b, 0, none⟩ (.string begun) = w2 at *
        have hcl := hck.out w2 (HB0.out.trans (hT.below hbb HB0.out.size))
        obtain ⟨c2, z2⟩ := hT.2.cell
        have HT := Lib.hid hT
        have e2 : IntKind.i64.wrap ((hs.length : Int) - goal) = (hs.length : Int) - goal := IntWalk.i64_in _ (by omega)
        clear cc zz hT hck
        go_still_tail 17, (by kernel_rfl)
        go_wp2
        go_end0
        exact ⟨rfl, (((HT.out.set 0 _).drew).set 1 _).set 4 _⟩
    · rw [if_neg hgo]
      have hgz : goal = 0 := by omega
      have hd : decide ((0 : Int) < goal) = false := by rw [decide_eq_false_iff_not]; exact hgo
      have HGZ := Lib.hid hgz
      clear hgz hgo
      by_cases hpl : place = 0
      · rw [if_pos hpl]
        have e1 : (place == 0) = true := by rw [beq_iff_eq]; exact hpl
        clear hpl
        go_enter Tryz.func34, Tryz.ntmps34
        go_wp2_with (go_at_call 53; refine (within_any _ _ _ _).mono ?_; rintro e w' ⟨rfl, rfl⟩)
        go_end0
        exact ⟨rfl, (((((Turned.refl HB.out).set 6 _).set 5 _).set 0 _).set 1 _).set 4 _⟩
      · rw [if_neg hpl]
        have e1 : (place == 0) = false := by rw [beq_eq_false_iff_ne]; exact hpl
        clear hpl
        go_enter Tryz.func34, Tryz.ntmps34
        go_wp2_with (go_at_call 53; refine (within_any _ _ _ _).mono ?_; rintro e w' ⟨rfl, rfl⟩)
        go_end0
        exact ⟨rfl, ((((Turned.refl HB.out).set 5 _).set 0 _).set 1 _).set 4 _⟩

set_option maxRecDepth 100000 in
set_option maxHeartbeats 3200000 in
theorem undo_none (d : ED) (hv : Value) (A : Option Addr) (c : Nat) (place : Int) (begun : ByteArray) (b : Nat) (w : World) (h : Box w b (edC d (.slice A 0 c) place begun hv)) :
    Calls Tryz.prog 35 #[.pointer (some ⟨b, 0, none⟩)] w fun e w' => e = .returned (.tuple #[]) ∧ Turned w b (edC d (.slice A 0 c) place begun hv) w' := by
  obtain ⟨cc, zz⟩ := h.cell
  have HB := Lib.hid h
  clear h
  go_enter Tryz.func35, Tryz.ntmps35
  go_wp2
  go_end0
  exact ⟨rfl, Turned.refl HB.out⟩

set_option maxRecDepth 100000 in
set_option maxHeartbeats 3200000 in
theorem undo_some (d : ED) (hv : Value) (b2 off2 m c k : Nat) (t : ByteArray) (place : Int) (begun : ByteArray) (b : Nat) (w : World) (h : Box w b (edC d (.slice (some ⟨b2, off2, none⟩) (m + 1) c) place begun hv)) (hm : m ≤ 100) (hc : m + 1 ≤ c)
    (h1 : w.cell? ⟨b2, off2 + m * 2, none⟩ = some (.string t)) (h2 : w.cell? ⟨b2, off2 + m * 2 + 1, none⟩ = some (.int .i64 k)) :
    Calls Tryz.prog 35 #[.pointer (some ⟨b, 0, none⟩)] w fun e w' => e = .returned (.tuple #[]) ∧ Turned w b (edC ⟨t, k, d.killed, d.killing⟩ (.slice (some ⟨b2, off2, none⟩) m c) place begun hv) w' := by
  obtain ⟨cc, zz⟩ := h.cell
  have HB := Lib.hid h
  clear h
  go_enter Tryz.func35, Tryz.ntmps35
  go_wp2_with fail
  go_region
  go_wp2
  go_end0
  exact ⟨rfl, ((((Turned.refl HB.out).set 0 _).set 1 _).drew).set 4 _⟩

end Go.Proofs.YtokmiommhfbkeaaGreatDoor
