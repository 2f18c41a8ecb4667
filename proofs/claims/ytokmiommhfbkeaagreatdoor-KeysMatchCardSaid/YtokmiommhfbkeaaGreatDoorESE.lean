/- A slice of states of the editor in memory: compared. -/
import Derived.Test.YtokmiommhfbkeaaGreatDoorESB
import Derived.BigQuiet
namespace Go.Proofs.YtokmiommhfbkeaaGreatDoor
open Go.RowKit

theorem state_ne {l m : List (ByteArray × Int)} {k : Nat} (h1 : k < l.length) (h2 : k < m.length) (h : ¬ l[k] = m[k]) : decide (l = m) = false := by
  rw [decide_eq_false_iff_not]; intro e; subst e; exact h rfl
theorem state_all {l m : List (ByteArray × Int)} (hl : l.length = m.length) (h : ∀ j (h1 : j < l.length) (h2 : j < m.length), j < l.length → l[j] = m[j]) : decide (l = m) = true := by
  rw [decide_eq_true_iff]; exact List.ext_getElem hl fun j h1 h2 => h j h1 h2 h1

set_option maxRecDepth 100000 in
set_option maxHeartbeats 1600000 in
theorem equalStates_any (l m : List (ByteArray × Int)) (v u : Value) (w : World) (hv : ES w v l) (hu : ES w u m) (hn : l.length ≤ 9223372036854775807) :
    Calls Tryz.prog 209 #[v, u] w fun e w' => e = .returned (.bool (decide (l = m))) ∧ Below w.heap.size w w' := by
  obtain ⟨A, c, rfl, hcap, h⟩ := hv
  obtain ⟨B, d, rfl, hcap2, h2⟩ := hu
  have HH := Lib.hid h
  have HH2 := Lib.hid h2
  clear h h2
  by_cases hlm : l.length = m.length
  · have hd : ((l.length : Int) != (m.length : Int)) = false := by rw [bne_eq_false_iff_eq]; omega
    have HLM := Lib.hid hlm
    clear hlm
    go_enter Tryz.func209, Tryz.ntmps209
    go_wp2_with fail
    go_loopw [13] (fun i wr => ∃ k : Nat, k ≤ l.length ∧ i = .int .i64 k ∧ (∃ q, wr = w.drewN q) ∧ Hid (∀ j (h1 : j < l.length) (h2 : j < m.length), j < k → l[j] = m[j])) (fun i _ => l.length - (intOf i).toNat)
    case atStart => exact ⟨0, Nat.zero_le _, rfl, ⟨0, rfl⟩, fun j _ _ hj => by omega⟩
    case round =>
      obtain ⟨k, hk, rfl, ⟨q, rfl⟩, HN⟩ := hrel
      by_cases hlt : k < l.length
      · have hlt2 : k < m.length := by rw [← HLM.out]; exact hlt
        obtain ⟨b, off, rfl, hb, hcell⟩ := HH.out (by omega)
        obtain ⟨b2, off2, rfl, hb2, hcell2⟩ := HH2.out (by omega)
        have hc1 := (hcell k hlt).1
        have hc2 := (hcell k hlt).2
        have hc3 := (hcell2 k hlt2).1
        have hc4 := (hcell2 k hlt2).2
        clear hcell hcell2
        by_cases hs : l[k] = m[k]
        · have HN2 : Hid (∀ j (h1 : j < l.length) (h2 : j < m.length), j < k + 1 → l[j] = m[j]) := fun j h1 h2 hjk => by
            by_cases e : j = k
            · subst e; exact hs
            · exact HN.out j h1 h2 (by omega)
          rw [← hs] at hc3 hc4
          clear hs
          generalize l[k] = s at *
          go_wp2_with fail
          go_quiet (fail)
          go_wp2
          go_roundw
          case rel => exact ⟨k + 1, by omega, by go_num, ⟨_, rfl⟩, HN2⟩
          case measure => simp [intOf]; omega
        · have hfin := Lib.hid (state_ne hlt hlt2 hs)
          generalize l[k] = s at *
          generalize m[k] = t at *
          by_cases h1 : s.1 = t.1
          · have e2 : (s.2 == t.2) = false := by
              rw [beq_eq_false_iff_ne]; intro e; exact hs (Prod.ext h1 e)
            rw [← h1] at hc3
            clear hs h1
            go_wp2_with fail
            go_quiet (fail)
            go_wp2
            go_ret
            exact ⟨ret_bool hfin.out.symm, below_drewN (below_drewN (Below.refl _ _) _) _⟩
          · have e1 : (s.1.toList == t.1.toList) = false := by
              rw [beq_eq_false_iff_ne, ByteArray.toList_eq, ByteArray.toList_eq]; intro e; exact h1 (ByteArray.ext (Array.ext' e))
            clear hs h1
            go_wp2_with fail
            go_quiet (fail)
            go_wp2
            go_ret
            exact ⟨ret_bool hfin.out.symm, below_drewN (below_drewN (Below.refl _ _) _) _⟩
      · have hfin := Lib.hid (state_all HLM.out (fun j h1 h2 _ => HN.out j h1 h2 (by omega)))
        go_wp2
        go_ret
        exact ⟨ret_bool hfin.out.symm, below_drewN (Below.refl _ _) _⟩
  · have hfin := Lib.hid (show decide (l = m) = false by rw [decide_eq_false_iff_not]; intro e; exact hlm (by rw [e]))
    have hd : ((l.length : Int) != (m.length : Int)) = true := by rw [bne_iff_ne]; omega
    clear hlm
    go_enter Tryz.func209, Tryz.ntmps209
    go_wp2
    go_ret
    exact ⟨ret_bool hfin.out.symm, Below.refl _ _⟩

end Go.Proofs.YtokmiommhfbkeaaGreatDoor
