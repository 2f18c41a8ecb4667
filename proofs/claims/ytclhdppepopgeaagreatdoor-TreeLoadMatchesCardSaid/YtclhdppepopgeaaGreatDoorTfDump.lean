/- The tree's lists, the reference: Dump. -/
import Derived.Test.YtclhdppepopgeaaGreatDoorTfDmp
import Derived.Laws.EntriesVeiled
import Derived.StillTailTactics
namespace Go.Proofs.YtclhdppepopgeaaGreatDoor
open Go.RowKit

set_option maxRecDepth 100000 in
set_option maxHeartbeats 3200000 in
theorem rdump_any (w : World) (B : Nat) (s : TS) (t mn kn : Nat) (nb eb : Nat → Nat) (ch : Int) (vb vo vc : Nat) (h : RL w B s t mn kn nb eb ch vb vo vc) (N : Nat) (hw : WF s N) (hN : N ≤ 3000) :
    Calls Tryz.prog 18 #[ptr t] w fun e w' => ∃ v, e = .returned v ∧ FL w' v (allT s) ∧ Below w.heap.size w w' := by
  have hn1 := hw.few
  have hr : restN s [] ≤ 3001 * 3000 := Nat.le_trans (rest_le hw []) (Nat.mul_le_mul (by omega) hN)
  have HPUT := Lib.hid (fun (bs bo ba sm : Nat) (W : World) (hb : Below w.heap.size w W) (hd : RA W w.heap.size bs bo ba sm nb s.nds.length ([], [])) => radd_any B s t mn kn nb eb ch vb vo vc w h N hw hN bs bo ba sm (s.nds.length + 1) slash 0 ([], []) W hb hd hw.pos (by omega) (fun _ => by omega) (by show (1 : Nat) + _ ≤ _; omega) (by show 0 + restN s [] + 1 ≤ _; omega))
  have HT := Lib.hid h
  have HP0 := Lib.hid hw.pos
  obtain ⟨sm, hsm⟩ : ∃ x, x = w.heap.size := ⟨_, rfl⟩
  obtain ⟨bs, hbs⟩ : ∃ x, x = sm + 1 := ⟨_, rfl⟩
  obtain ⟨bo, hbo⟩ : ∃ x, x = bs + 1 := ⟨_, rfl⟩
  obtain ⟨ba, hba⟩ : ∃ x, x = bo + 1 := ⟨_, rfl⟩
  obtain ⟨Wa, hWa⟩ : ∃ z, z = w.alloc (.map #[] 0) := ⟨_, rfl⟩
  obtain ⟨Wb, hWb⟩ : ∃ z, z = Wa.alloc (.cells #[.map (some sm)] 92) := ⟨_, rfl⟩
  obtain ⟨Wc, hWc⟩ : ∃ z, z = Wb.alloc (.cells #[.slice none 0 0] 22) := ⟨_, rfl⟩
  obtain ⟨W1, hW1⟩ : ∃ z, z = Wc.alloc (.cells #[addV bs bo ba] 93) := ⟨_, rfl⟩
  have sa : Wa.heap.size = bs := by rw [hWa, hbs, hsm]; simp
  have sb : Wb.heap.size = bo := by rw [hWb, hbo, ← sa]; simp
  have sc : Wc.heap.size = ba := by rw [hWc, hba, ← sb]; simp
  have ka : Below w.heap.size w Wa := by rw [hWa]; exact (Below.refl _ _).alloc (Nat.le_refl _) _
  have kb : Below Wa.heap.size Wa Wb := by rw [hWb]; exact (Below.refl _ _).alloc (Nat.le_refl _) _
  have kc : Below Wb.heap.size Wb Wc := by rw [hWc]; exact (Below.refl _ _).alloc (Nat.le_refl _) _
  have kd : Below Wc.heap.size Wc W1 := by rw [hW1]; exact (Below.refl _ _).alloc (Nat.le_refl _) _
  have ma : MapAt Wa sm [] := by rw [hWa, hsm]; exact MapAt.new w
  have mb : Wb.heap[bs]? = some (.cells #[.map (some sm)] 92 (0, 0)) := by rw [hWb, ← sa]; exact heap_alloc_new Wa _
  have mc : Wc.heap[bo]? = some (.cells #[.slice none 0 0] 22 (0, 0)) := by rw [hWc, ← sb]; exact heap_alloc_new Wb _
  have md : W1.heap[ba]? = some (.cells #[addV bs bo ba] 93 (0, 0)) := by rw [hW1, ← sc]; exact heap_alloc_new Wc _
  have kcd : Below Wb.heap.size Wb W1 := kc.trans (kd.mono kc.size)
  have kbd : Below Wa.heap.size Wa W1 := kb.trans (kcd.mono kb.size)
  have hb1 : Below w.heap.size w W1 := ka.trans (kbd.mono ka.size)
  have hRA : RA W1 w.heap.size bs bo ba sm nb s.nds.length ([], []) := ⟨(kcd.block bs (Array.getElem?_eq_some_iff.1 mb).1).trans mb, ⟨_, (kd.block bo (Array.getElem?_eq_some_iff.1 mc).1).trans mc, OwnF.nil _ _⟩, md, ma.keep kbd, by omega, by omega, by omega, by omega, fun p hp => by cases hp⟩
  have HRA := Lib.hid hRA
  have HB1 := Lib.hid hb1
  have HSM : Hid (w.heap.size = sm) := Lib.hid hsm.symm
  have HBS : Hid (sm + 1 = bs) := Lib.hid hbs.symm
  have HBO : Hid (bs + 1 = bo) := Lib.hid hbo.symm
  have HBA : Hid (bo + 1 = ba) := Lib.hid hba.symm
  have HWE : Hid ((((w.alloc (.map #[] 0)).alloc (.cells #[.map (some sm)] 92)).alloc (.cells #[.slice none 0 0] 22)).alloc (.cells #[addV bs bo ba] 93) = W1) := Lib.hid (by rw [hW1, hWc, hWb, hWa])
  have HP1 := Lib.hid (HPUT.out bs bo ba sm W1.drew hb1.drew (hRA.keep (Below.refl _ W1).drew))
  obtain ⟨R, hR⟩ : ∃ R : DS, R = dumpT s (s.nds.length + 1) slash 0 ([], []) := ⟨_, rfl⟩
  have HA : Hid (allT s = R.1) := Lib.hid (by rw [hR]; rfl)
  rw [← hR] at HP1
  have hT1 := HT.out.keep hb1
  have tt := hT1.tree
  obtain ⟨cs, tv1, tv2⟩ := hT1.volr
  have tvo := hT1.volb
  have hvc := hT1.vcp
  have t3 : W1.cell? ⟨t, 3, none⟩ = some (.slice (some ⟨vb, 0, none⟩) 1 vc) := by simp [World.cell?, tt]
  have v0 : W1.cell? ⟨vb, 0, none⟩ = some (ptr vo) := by simp [World.cell?, tv1, tv2]
  have v3 : W1.cell? ⟨vo, 3, none⟩ = some (ptr (nb 0)) := by simp [World.cell?, tvo]
  have b0 : W1.cell? ⟨ba, 0, none⟩ = some (addV bs bo ba) := by simp [World.cell?, md]
  clear tt tv1 tv2 tvo hT1 hR hRA hb1 kbd kcd md mc mb ma kd kc kb ka sa sb sc hW1 hWc hWb hWa hba hbo hbs hsm hn1 hr HPUT h hw HT HP0
  go_enter Tryz.func18, Tryz.ntmps18
  have hmm := @run_makeMap Tryz.prog
  go_upto_region 5 with fail
  rw [HSM.out, HBS.out, HBO.out, HBA.out, HWE.out]
  go_still_tail 10, (by kernel_rfl)
  change wpList _ _ _ _ _ W1.drew
  have HB1d := Lib.hid (HB1.out.drew)
  generalize W1.drew = Wd at *
  clear t3 v0 v3 b0 HRA HB1 HSM HBS HBO HBA HWE hmm
  go_wp2_with fail
  refine HP1.out.mono ?_
  rintro e w5 ⟨rfl, hD, hB, hK⟩
  obtain ⟨v, hbox, hown⟩ := hD.obox
  have k0 : w5.cell? ⟨bo, 0, none⟩ = some v := by simp [World.cell?, hbox]
  have HB5 := Lib.hid hB
  have HFL := Lib.hid hown.fl
  clear hD hB hK hbox hown
  go_wp2_with fail
  go_ret
  exact ⟨v, rfl, by rw [HA.out]; exact HFL.out, HB5.out⟩
end Go.Proofs.YtclhdppepopgeaaGreatDoor
