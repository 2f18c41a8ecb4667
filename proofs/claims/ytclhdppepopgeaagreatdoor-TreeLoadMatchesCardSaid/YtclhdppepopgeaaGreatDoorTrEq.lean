/- The tree's lists: lists of entries in memory, compared. (Printed by tools/gtreq.py.) -/
import Derived.Test.YtclhdppepopgeaaGreatDoorTrText
namespace Go.Proofs.YtclhdppepopgeaaGreatDoor
open Go.RowKit

/-- the cells of an entry -/
def feC (e : FE) : List Value := [.string e.path, .int .i64 e.kind, .int .i64 e.mode, .int .i64 e.user, .int .i64 e.group, .string e.text, .int .i64 e.changed, .string e.same]
/-- an entry at a place -/
def FeIn (w : World) (b o : Nat) (e : FE) : Prop := w.cell? ⟨b, o, none⟩ = some (.string e.path) ∧ w.cell? ⟨b, o + 1, none⟩ = some (.int .i64 e.kind) ∧ w.cell? ⟨b, o + 2, none⟩ = some (.int .i64 e.mode) ∧ w.cell? ⟨b, o + 3, none⟩ = some (.int .i64 e.user) ∧ w.cell? ⟨b, o + 4, none⟩ = some (.int .i64 e.group) ∧ w.cell? ⟨b, o + 5, none⟩ = some (.string e.text) ∧ w.cell? ⟨b, o + 6, none⟩ = some (.int .i64 e.changed) ∧ w.cell? ⟨b, o + 7, none⟩ = some (.string e.same)
theorem FeIn.keep {w w' : World} {b o : Nat} {e : FE} (h : FeIn w b o e) (hb : Below w.heap.size w w') : FeIn w' b o e := by
  have hl := World.block_lt_of_cell? w _ h.1
  have k : ∀ j v, w.cell? ⟨b, j, none⟩ = some v → w'.cell? ⟨b, j, none⟩ = some v := fun j v hv => (hb.cell (p := ⟨b, j, none⟩) hl).trans hv
  obtain ⟨h0, h1, h2, h3, h4, h5, h6, h7⟩ := h
  exact ⟨k _ _ h0, k _ _ h1, k _ _ h2, k _ _ h3, k _ _ h4, k _ _ h5, k _ _ h6, k _ _ h7⟩
/-- v is a slice that reads as the entries l -/
def FL (w : World) (v : Value) (l : List FE) : Prop := ∃ A c, v = .slice A l.length c ∧ l.length ≤ c ∧ (0 < l.length → ∃ b off, A = some ⟨b, off, none⟩ ∧ b < w.heap.size ∧ ∀ j (h : j < l.length), FeIn w b (off + j * 8) l[j])
theorem FL.keep {w w' : World} {v : Value} {l : List FE} (h : FL w v l) (hb : Below w.heap.size w w') : FL w' v l := by
  obtain ⟨A, c, rfl, hc, h⟩ := h
  refine ⟨A, c, rfl, hc, fun h0 => ?_⟩
  obtain ⟨b, off, rfl, hl, h1⟩ := h h0
  exact ⟨b, off, rfl, Nat.lt_of_lt_of_le hl hb.size, fun j hj => (h1 j hj).keep hb⟩
theorem fe_ne {l m : List FE} {k : Nat} (h1 : k < l.length) (h2 : k < m.length) (h : ¬ l[k] = m[k]) : decide (l = m) = false := by
  rw [decide_eq_false_iff_not]; intro e; subst e; exact h rfl
theorem fe_all {l m : List FE} (hl : l.length = m.length) (h : ∀ j (h1 : j < l.length) (h2 : j < m.length), j < l.length → l[j] = m[j]) : decide (l = m) = true := by
  rw [decide_eq_true_iff]; exact List.ext_getElem hl fun j h1 h2 => h j h1 h2 h1
theorem bb_ne {a b : ByteArray} (h : ¬ a = b) : (a.toList == b.toList) = false := by rw [beq_dec, decide_eq_false h]

set_option maxRecDepth 100000 in
set_option maxHeartbeats 6400000 in
theorem equal_any (l m : List FE) (v u : Value) (w : World) (hv : FL w v l) (hu : FL w u m) (hn : l.length ≤ 4611686018427387903) (hm : m.length ≤ 4611686018427387903) :
    Calls Tryz.prog 7 #[v, u] w fun e w' => e = .returned (.bool (decide (l = m))) ∧ Below w.heap.size w w' := by
  obtain ⟨A, c, rfl, hcap, h⟩ := hv
  obtain ⟨B, d, rfl, hcap2, h2⟩ := hu
  have HH := Lib.hid h
  have HH2 := Lib.hid h2
  clear h h2
  by_cases hlm : l.length = m.length
  · have hd : ((l.length : Int) != (m.length : Int)) = false := by rw [bne_eq_false_iff_eq]; omega
    have HLM := Lib.hid hlm
    clear hlm
    go_enter Tryz.func7, Tryz.ntmps7
    go_wp2_with fail
    go_loopw [13] (fun i wr => ∃ k : Nat, k ≤ l.length ∧ i = .int .i64 k ∧ (∃ q, wr = w.drewN q) ∧ Hid (∀ j (h1 : j < l.length) (h2 : j < m.length), j < k → l[j] = m[j])) (fun i _ => l.length - (intOf i).toNat)
    case atStart => exact ⟨0, Nat.zero_le _, rfl, ⟨0, rfl⟩, Lib.hid (fun j _ _ hj => absurd hj (Nat.not_lt_zero _))⟩
    case round =>
      obtain ⟨k, hk, rfl, ⟨q, rfl⟩, HN⟩ := hrel
      by_cases hlt : k < l.length
      · have hlt2 : k < m.length := by rw [← HLM.out]; exact hlt
        have hltz : (k : Int) < (l.length : Int) := by omega
        have hltz2 : (k : Int) < (m.length : Int) := by omega
        have hk0 : (0 : Int) ≤ (k : Int) := by omega
        have hk1 : IntKind.i64.wrap ((k : Int) + 1) = ((k + 1 : Nat) : Int) := IntWalk.i64_in _ (by omega)
        obtain ⟨b, off, rfl, hb, hcell⟩ := HH.out (by omega)
        obtain ⟨b2, off2, rfl, hb2, hcell2⟩ := HH2.out (by omega)
        obtain ⟨c0, c1, c2, c3, c4, c5, c6, c7⟩ := hcell k hlt
        obtain ⟨d0, d1, d2, d3, d4, d5, d6, d7⟩ := hcell2 k hlt2
        clear hcell hcell2
        by_cases hs : l[k] = m[k]
        · have HN2 : Hid (∀ j (h1 : j < l.length) (h2 : j < m.length), j < k + 1 → l[j] = m[j]) := Lib.hid (fun j h1 h2 hjk => by
            by_cases e : j = k
            · subst e; exact hs
            · exact HN.out j h1 h2 (by omega))
          rw [← hs] at d0 d1 d2 d3 d4 d5 d6 d7
          clear hs
          generalize l[k] = z at *
          go_wp2_with fail
          go_quiet (fail)
          go_wp2_with fail
          exact ⟨⟨k + 1, by omega, by simp, ⟨_, rfl⟩, HN2⟩, by simp [intOf]; omega⟩
        · have hfin := Lib.hid (fe_ne hlt hlt2 hs)
          obtain ⟨z, hz⟩ : ∃ z, z = l[k] := ⟨_, rfl⟩
          obtain ⟨y, hy⟩ : ∃ y, y = m[k] := ⟨_, rfl⟩
          rw [← hz] at c0 c1 c2 c3 c4 c5 c6 c7 hs
          rw [← hy] at d0 d1 d2 d3 d4 d5 d6 d7 hs
          obtain ⟨z0, z1, z2, z3, z4, z5, z6, z7⟩ := z
          obtain ⟨y0, y1, y2, y3, y4, y5, y6, y7⟩ := y
          dsimp only at c0 c1 c2 c3 c4 c5 c6 c7 d0 d1 d2 d3 d4 d5 d6 d7
          clear hz hy HN
          by_cases h0 : z0 = y0
          · subst h0
            by_cases h1 : z1 = y1
            · subst h1
              by_cases h2 : z2 = y2
              · subst h2
                by_cases h3 : z3 = y3
                · subst h3
                  by_cases h4 : z4 = y4
                  · subst h4
                    by_cases h5 : z5 = y5
                    · subst h5
                      by_cases h6 : z6 = y6
                      · subst h6
                        by_cases h7 : z7 = y7
                        · subst h7
                          exact absurd rfl hs
                        · have hb7 : (z7.toList == y7.toList) = false := bb_ne h7
                          clear h7 hs
                          go_wp2_with fail
                          go_quiet (fail)
                          go_wp2_with fail
                          go_ret
                          exact ⟨ret_bool hfin.out.symm, below_drewN (below_drewN (Below.refl _ _) _) _⟩
                      · have hb6 : (z6 == y6) = false := beq_eq_false_iff_ne.2 h6
                        clear h6 hs
                        go_wp2_with fail
                        go_quiet (fail)
                        go_wp2_with fail
                        go_ret
                        exact ⟨ret_bool hfin.out.symm, below_drewN (below_drewN (Below.refl _ _) _) _⟩
                    · have hb5 : (z5.toList == y5.toList) = false := bb_ne h5
                      clear h5 hs
                      go_wp2_with fail
                      go_quiet (fail)
                      go_wp2_with fail
                      go_ret
                      exact ⟨ret_bool hfin.out.symm, below_drewN (below_drewN (Below.refl _ _) _) _⟩
                  · have hb4 : (z4 == y4) = false := beq_eq_false_iff_ne.2 h4
                    clear h4 hs
                    go_wp2_with fail
                    go_quiet (fail)
                    go_wp2_with fail
                    go_ret
                    exact ⟨ret_bool hfin.out.symm, below_drewN (below_drewN (Below.refl _ _) _) _⟩
                · have hb3 : (z3 == y3) = false := beq_eq_false_iff_ne.2 h3
                  clear h3 hs
                  go_wp2_with fail
                  go_quiet (fail)
                  go_wp2_with fail
                  go_ret
                  exact ⟨ret_bool hfin.out.symm, below_drewN (below_drewN (Below.refl _ _) _) _⟩
              · have hb2 : (z2 == y2) = false := beq_eq_false_iff_ne.2 h2
                clear h2 hs
                go_wp2_with fail
                go_quiet (fail)
                go_wp2_with fail
                go_ret
                exact ⟨ret_bool hfin.out.symm, below_drewN (below_drewN (Below.refl _ _) _) _⟩
            · have hb1 : (z1 == y1) = false := beq_eq_false_iff_ne.2 h1
              clear h1 hs
              go_wp2_with fail
              go_quiet (fail)
              go_wp2_with fail
              go_ret
              exact ⟨ret_bool hfin.out.symm, below_drewN (below_drewN (Below.refl _ _) _) _⟩
          · have hb0 : (z0.toList == y0.toList) = false := bb_ne h0
            clear h0 hs
            go_wp2_with fail
            go_quiet (fail)
            go_wp2_with fail
            go_ret
            exact ⟨ret_bool hfin.out.symm, below_drewN (below_drewN (Below.refl _ _) _) _⟩
      · have hfin := Lib.hid (fe_all HLM.out (fun j h1 h2 _ => HN.out j h1 h2 (by omega)))
        have hltz : ¬ (k : Int) < (l.length : Int) := by omega
        go_wp2_with fail
        go_ret
        exact ⟨ret_bool hfin.out.symm, below_drewN (Below.refl _ _) _⟩
  · have hfin := Lib.hid (show decide (l = m) = false by rw [decide_eq_false_iff_not]; intro e; exact hlm (by rw [e]))
    have hd : ((l.length : Int) != (m.length : Int)) = true := by rw [bne_iff_ne]; omega
    go_enter Tryz.func7, Tryz.ntmps7
    go_wp2_with fail
    go_ret
    exact ⟨ret_bool hfin.out.symm, Below.refl _ _⟩
end Go.Proofs.YtclhdppepopgeaaGreatDoor
