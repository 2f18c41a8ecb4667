/- The tree's lists: a tree's dump, and how many entries have no Same. -/
import Derived.Test.YtclhdppepopgeaaGreatDoorTrDmp
namespace Go.Proofs.YtclhdppepopgeaaGreatDoor
open Go.RowKit

set_option maxRecDepth 100000 in
set_option maxHeartbeats 6400000 in
theorem dump_any (s : TS) (t mn : Nat) (nb eb : Nat → Nat) (ch : Int) (vb vo vc : Nat) (w : World) (h : TM w s t mn nb eb ch vb vo vc) (N : Nat) (hw : WF s N) (hN : N ≤ 3000) :
    Calls Tryz.prog 8 #[ptr t] w fun e w' => ∃ v, e = .returned v ∧ FL w' v (allT s) ∧ Below w.heap.size w w' := by
  obtain ⟨c0, _, _, _⟩ := h.cells
  have hn1 := hw.few
  have hr : restN s [] ≤ 3001 * 3000 := Nat.le_trans (rest_le hw []) (Nat.mul_le_mul (by omega) hN)
  have HPUT := Lib.hid (fun (d sm : Nat) (W : World) (hb : Below w.heap.size w W) (hd : DA W w.heap.size d sm nb s.nds.length ([], [])) => put_any s t mn nb eb ch vb vo vc w h N hw hN d sm (s.nds.length + 1) slash 0 ([], []) W hb hd hw.pos (by omega) (fun _ => by omega) (by show (1 : Nat) + _ ≤ _; omega) (by show 0 + restN s [] + 1 ≤ _; omega))
  have HLK := Lib.hid (fun (W : World) (hb : Below w.heap.size w W) => (h.keep hb).byNum 0 hw.pos)
  obtain ⟨sm, hsm⟩ : ∃ x, x = w.heap.size := ⟨_, rfl⟩
  obtain ⟨d, hd⟩ : ∃ x, x = w.heap.size + 1 := ⟨_, rfl⟩
  obtain ⟨W1, hW1⟩ : ∃ z, z = (w.alloc (.map #[] 0)).alloc (.cells #[.slice none 0 0, .map (some sm)] 78) := ⟨_, rfl⟩
  have HB1 : Hid (Below w.heap.size w W1) := Lib.hid (by rw [hW1]; exact ((Below.refl _ _).alloc (Nat.le_refl _) _).alloc (by simp) _)
  have hd0 : W1.heap[d]? = some (.cells #[.slice none 0 0, .map (some sm)] 78 (0, 0)) := by
    have := heap_alloc_new (w.alloc (.map #[] 0)) (.cells #[.slice none 0 0, .map (some sm)] 78)
    rw [hW1, hd]
    simpa using this
  have hs0 : MapAt W1 sm [] := by
    rw [hW1, hsm]
    exact (MapAt.new w).keep ((Below.refl _ _).alloc (Nat.le_refl _) _)
  have HDA : Hid (DA W1 w.heap.size d sm nb s.nds.length ([], [])) := Lib.hid ⟨⟨_, hd0, OwnF.nil _ _⟩, hs0, by omega, by omega, fun p hp => by cases hp⟩
  have HP1 := Lib.hid (HPUT.out d sm W1 HB1.out HDA.out)
  have c1 : W1.cell? ⟨t, 0, none⟩ = some (.map (some mn)) := (HB1.out.cell (p := ⟨t, 0, none⟩) (World.block_lt_of_cell? w _ c0)).trans c0
  have l1 := HLK.out W1 HB1.out
  rw [show ((0 + 1 : Nat) : Int) = 1 from rfl] at l1
  obtain ⟨R, hR⟩ : ∃ R : DS, R = dumpT s (s.nds.length + 1) slash 0 ([], []) := ⟨_, rfl⟩
  have HA : Hid (allT s = R.1) := Lib.hid (by rw [hR]; rfl)
  rw [← hR] at HP1
  have HWE : Hid ((w.alloc (.map #[] 0)).alloc (.cells #[.slice none 0 0, .map (some sm)] 78) = W1) := Lib.hid hW1.symm
  have HDE : Hid (sm + 1 = d) := Lib.hid (by rw [hd, hsm])
  have HSE : Hid (w.heap.size = sm) := Lib.hid hsm.symm
  clear HPUT HLK hW1 hd hd0 hs0 hr hn1 h hw HDA hR hsm
  go_enter Tryz.func8, Tryz.ntmps8
  have hmm := @run_makeMap Tryz.prog
  go_upto_region 2 with fail
  rw [HSE.out, HDE.out, HWE.out]
  go_wp2_with fail
  refine HP1.out.mono ?_
  rintro e w5 ⟨rfl, hD, hB, hK⟩
  obtain ⟨v, hbox, hown⟩ := hD.box
  have k0 : w5.cell? ⟨d, 0, none⟩ = some v := by simp [World.cell?, hbox]
  have HB5 := Lib.hid hB
  have HFL := Lib.hid hown.fl
  clear hD hB hK hbox hown
  go_wp2_with fail
  go_ret
  exact ⟨v, rfl, by rw [HA.out]; exact HFL.out, HB5.out⟩

/-- how many of the first entries have no Same -/
def aloneN (l : List FE) (k : Nat) : Nat := aloneT (l.take k)
theorem alone_next (l : List FE) (k : Nat) (h : k < l.length) : aloneN l (k + 1) = aloneN l k + (if l[k].same = noneB then 1 else 0) := by
  unfold aloneN aloneT
  rw [List.take_succ_eq_append_getElem h, List.filter_append, List.length_append]
  by_cases hs : l[k].same = noneB
  · rw [if_pos hs, List.filter_cons_of_pos (by simpa using hs)]; rfl
  · rw [if_neg hs, List.filter_cons_of_neg (by simpa using hs)]; rfl
theorem alone_le (l : List FE) (k : Nat) : aloneN l k ≤ k := by
  unfold aloneN aloneT
  refine Nat.le_trans (List.length_filter_le _ _) ?_
  rw [List.length_take]
  omega
set_option maxRecDepth 100000 in
set_option maxHeartbeats 3200000 in
theorem alone_any (l : List FE) (v : Value) (w : World) (hv : FL w v l) (hn : l.length ≤ 2001) :
    Calls Tryz.prog 19 #[v] w fun e w' => e = .returned (.int .i64 (aloneT l : Int)) ∧ Below w.heap.size w w' := by
  have HV := Lib.hid hv
  obtain ⟨A, c, rfl, hc, _⟩ := hv
  go_enter Tryz.func19, Tryz.ntmps19
  go_wp2_with fail
  go_loopw [3, 8] (fun s3 s8 wr => ∃ k : Nat, k ≤ l.length ∧ s8 = .int .i64 (k : Int) ∧ s3 = .int .i64 (aloneN l k : Int) ∧ Hid (Below w.heap.size w wr)) (fun _ s8 _ => l.length - (intOf s8).toNat)
  case atStart => exact ⟨0, Nat.zero_le _, rfl, rfl, Lib.hid (Below.refl _ _)⟩
  case round =>
    obtain ⟨k, hk, rfl, rfl, HB⟩ := hrel
    by_cases hlt : k < l.length
    · obtain ⟨b, off, rfl, hb, hcell⟩ : ∃ b off, A = some ⟨b, off, none⟩ ∧ b < wr.heap.size ∧ ∀ j (h : j < l.length), FeIn wr b (off + j * 8) l[j] := by
        obtain ⟨A', c', e, _, h2⟩ := HV.out.keep HB.out
        injection e with e1
        subst e1
        exact h2 (by omega)
      obtain ⟨c0, c1, c2, c3, c4, c5, c6, c7⟩ := hcell k hlt
      have HNX := Lib.hid (alone_next l k hlt)
      have hal := alone_le l k
      obtain ⟨z, hz⟩ : ∃ z, z = l[k] := ⟨_, rfl⟩
      rw [← hz] at c0 c1 c2 c3 c4 c5 c6 c7 HNX
      have hltz : (k : Int) < (l.length : Int) := by omega
      have hk1 : IntKind.i64.wrap ((k : Int) + 1) = ((k + 1 : Nat) : Int) := IntWalk.i64_in _ (by omega)
      have ha1 : IntKind.i64.wrap ((aloneN l k : Int) + 1) = ((aloneN l k + 1 : Nat) : Int) := IntWalk.i64_in _ (by omega)
      generalize aloneN l k = q at *
      clear hcell hz hal
      go_upto_region 5 with fail
      obtain ⟨x, hx⟩ : ∃ x, x = wr.heap.size := ⟨_, rfl⟩
      obtain ⟨W1, hW1⟩ : ∃ z', z' = wr.alloc (.cells #[.string z.path, .int .i64 z.kind, .int .i64 z.mode, .int .i64 z.user, .int .i64 z.group, .string z.text, .int .i64 z.changed, .string z.same] 33) := ⟨_, rfl⟩
      have hx0 : W1.heap[x]? = some (.cells #[.string z.path, .int .i64 z.kind, .int .i64 z.mode, .int .i64 z.user, .int .i64 z.group, .string z.text, .int .i64 z.changed, .string z.same] 33 (0, 0)) := by rw [hW1, hx]; exact heap_alloc_new wr _
      have x7 : W1.cell? ⟨x, 7, none⟩ = some (.string z.same) := by simp [World.cell?, hx0]
      have HB1 : Hid (Below w.heap.size w W1) := Lib.hid (by rw [hW1]; exact HB.out.alloc HB.out.size _)
      rw [← hx, ← hW1]
      clear hx hW1 hx0 c0 c1 c2 c3 c4 c5 c6 c7
      obtain ⟨ts, hts⟩ : ∃ ts, ts = z.same := ⟨_, rfl⟩
      rw [← hts] at x7 HNX
      clear hts
      by_cases hs : ts = noneB
      · have HN2 : Hid (aloneN l (k + 1) = q + 1) := Lib.hid (by rw [HNX.out, if_pos hs])
        have hse : (ts.toList == []) = true := by rw [empty_dec, decide_eq_true hs]
        clear HNX hs
        go_wp2_with fail
        exact ⟨⟨k + 1, by omega, by simp, by rw [HN2.out]; rfl, HB1⟩, by simp [intOf]; omega⟩
      · have HN2 : Hid (aloneN l (k + 1) = q) := Lib.hid (by rw [HNX.out, if_neg hs, Nat.add_zero])
        have hse : (ts.toList == []) = false := by rw [empty_dec, decide_eq_false hs]
        clear HNX hs
        go_wp2_with fail
        exact ⟨⟨k + 1, by omega, by simp, by rw [HN2.out], HB1⟩, by simp [intOf]; omega⟩
    · obtain rfl : k = l.length := by omega
      have hfin := Lib.hid (show aloneN l l.length = aloneT l by unfold aloneN; rw [List.take_length])
      rw [hfin.out]
      go_wp2_with fail
      go_ret
      exact ⟨rfl, HB.out⟩
end Go.Proofs.YtclhdppepopgeaaGreatDoor
