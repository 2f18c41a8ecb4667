/- QuoteIsConst: the reader's steps of a word. -/
import Derived.Test.YtonejkomggpbbabGreatDoorQtByte
namespace Go.Proofs.YtonejkomggpbbabGreatDoor
open Go.RowKit Go.Shelf

set_option maxRecDepth 100000 in
set_option maxHeartbeats 1600000 in
theorem behind_any (b : Nat) (T : List UInt8) (a : UInt8) (r : List UInt8) (w : World) (h : Rd w b T (a :: r)) :
    Calls Tryz.prog 97 #[.pointer (some ⟨b, 0, none⟩)] w fun e w' => e = .returned (.int .i64 (a.toNat : Int)) ∧ Rd w' b T (a :: r) ∧ Only b w w' := by
  have HR2 := Lib.hid h
  have HO2 := Lib.hid (Only.refl b w)
  obtain ⟨p, lf, hp, hlf1, hlf2, hd, c0, c1, c2, c4, cf, hbx⟩ := HR2.out.cells
  have hsz := toB_size T
  have hT := h.len
  clear hbx cf h
  have hlen : (a :: r).length = r.length + 1 := rfl
  rw [hlen] at hp
  have hne : ((p : Int) == (T.length : Int)) = false := by rw [beq_eq_false_iff_ne]; omega
  have hlt : (p : Int) < ((toB T).size : Int) := by omega
  have hp0 : (0 : Int) ≤ (p : Int) := by omega
  have hlt2 : (p : Int) < (T.length : Int) := by omega
  have hlt3 : p < T.length := by omega
  have hlt4 : p < (toB T).size := by omega
  go_enter Tryz.func97, Tryz.ntmps97
  go_upto_region 1 with fail
  go_quiet (fail)
  have HR3 := Lib.hid (HR2.out.drewN nq)
  have HO3 := Lib.hid (HO2.out.drewN nq)
  clear c0 c1 c2 c4
  generalize w.drewN nq = w2 at *
  obtain ⟨p2, lf2, hp2, _, _, _, c0, c1, c2, c4, cf, hbx⟩ := HR3.out.cells
  rw [hlen] at hp2
  obtain rfl : p2 = p := by omega
  go_wp2_with fail
  go_quiet (fail)
  have HR4 := Lib.hid (HR3.out.drewN nq)
  have HO4 := Lib.hid (HO3.out.drewN nq)
  have hat : ((toB T)[p2]'(by omega)) = a := by
    show (toB T).data[p2]'_ = a
    have e : T[p2]? = some a := by
      have := congrArg (·[0]?) hd
      simpa using this
    obtain ⟨_, e⟩ := List.getElem?_eq_some_iff.1 e
    simpa [toB] using e
  have HA := Lib.hid hat
  clear hat
  go_wp2_with fail
  go_ret
  refine ⟨?_, HR4.out, HO4.out⟩
  rw [HA.out, wrap64_u8]
  rfl
set_option maxRecDepth 100000 in
set_option maxHeartbeats 1600000 in
theorem escaped_any (b : Nat) (T : List UInt8) (c : UInt8) (r : List UInt8) (w : World) (h : Rd w b T (c :: r)) :
    Calls Tryz.prog 65 #[.pointer (some ⟨b, 0, none⟩)] w (NextGives b T c r w) := by
  have HPk := Lib.hid (behind_any b T c r w h)
  obtain ⟨Q, hQ⟩ : ∃ Q, NextGives b T c r w = Q := ⟨_, rfl⟩
  rw [hQ]
  have HQ := Lib.hid hQ
  have hc := c.toNat_lt
  clear h hQ
  have hne : ((c.toNat : Int) == -1) = false := by rw [beq_eq_false_iff_ne]; omega
  have hw : IntKind.u8.wrap (c.toNat : Int) = (c.toNat : Int) := by simp [IntKind.wrap, IntKind.bits, IntKind.signed]; omega
  go_enter Tryz.func65, Tryz.ntmps65
  go_wp2_with fail
  refine HPk.out.mono ?_
  rintro e w2 ⟨rfl, hr2, ho2⟩
  obtain ⟨p, lf, hp, hlf1, hlf2, hd, c0, c1, c2, c4, cf, hbx⟩ := hr2.cells
  have hlen : (c :: r).length = r.length + 1 := rfl
  rw [hlen] at hp
  have hT := hr2.len
  have HF := Lib.hid (hr2.store (q := p + 1) (l' := r) (by omega) (by rw [← List.drop_drop, hd]; rfl))
  have HG := Lib.hid (ho2.setCell (i := 1) (.int .i64 ((p + 1 : Nat) : Int)))
  clear hbx hd hlen hr2 ho2 HPk c0 c2 c4
  go_wp2_with fail
  rw [← HQ.out]
  exact ⟨rfl, HF.out, HG.out⟩
end Go.Proofs.YtonejkomggpbbabGreatDoor
