/- The reference's View shows what viewR tells, for every prompt, text, place and width. -/
import Derived.Test.YtokmiommhfbkeaaDoorViewB
import Derived.Laws.MakeOwn
import Derived.Deep.RegionWith
namespace Go.Proofs.YtokmiommhfbkeaaDoor
open Go.RowKit

theorem strInfo2 : (Tryd.prog.info? 9).map (fun i => (i.zero, i.size, i.bytes)) = some (some (.string ⟨#[]⟩), 1, 16) := by kernel_rfl
/-- the block of 200 empty lines -/
noncomputable def made200 : Array Value := madeCells #[.string ⟨#[]⟩] 200
theorem made200_at (j : Nat) (h : j < 200) : made200[j]? = some (.string ⟨#[]⟩) := by
  unfold made200 madeCells
  rw [Array.getElem?_map, Array.getElem?_range]
  simp [h, Nat.mod_one]
theorem make200 (w : World) : (Instr.makeSlice 27 (.int .i64 200) (.int .i64 200)).run Tryd.prog w = .ok (.slice (some ⟨w.heap.size, 0, none⟩) 200 200) (w.alloc (.cells made200 9)) := by
  obtain ⟨i0, hi, hz0, hz1, hz2⟩ := info_parts strInfo2
  have h := run_make (P := Tryd.prog) w 27 9 i0 (.string ⟨#[]⟩) Tryd.underlying27 hi hz0 .i64 .i64 200 200 (by omega) (by omega) (by rw [hz2]; omega) (by omega)
  rw [hz1] at h
  exact h
theorem SL200 {w w1 : World} (hb : Below (w.alloc (.cells made200 9)).heap.size (w.alloc (.cells made200 9)) w1) : SL w1 (.slice (some ⟨w.heap.size, 0, none⟩) 200 200) hist200 := by
  refine SL.keep (w := w.alloc (.cells made200 9)) ⟨_, 200, by rw [hist200_len], by rw [hist200_len]; omega, fun _ => ⟨w.heap.size, 0, rfl, by simp, fun j hj => ?_⟩⟩ hb
  rw [hist200_len] at hj
  rw [World.cell?_alloc_at _ _ _ _ rfl, Nat.zero_add, made200_at j hj, show hist200[j] = ⟨#[]⟩ from List.getElem_replicate _]

theorem SL200b {w w1 : World} {b : Nat} (hn : b = w.heap.size) (hb : Below (w.alloc (.cells made200 9)).heap.size (w.alloc (.cells made200 9)) w1) : SL w1 (.slice (some ⟨b, 0, none⟩) 200 200) hist200 := by
  subst hn; exact SL200 hb

theorem below_two (w : World) : ∀ o1 o2 w1, Below ((w.alloc o1).alloc o2).heap.size ((w.alloc o1).alloc o2).drew w1 → Below w.heap.size w w1 := fun o1 o2 _ h =>
  (((Below.refl _ w).alloc (Nat.le_refl _) o1).alloc (by simp) o2).drew.trans (h.mono (by simp; omega))

set_option maxRecDepth 100000 in
set_option maxHeartbeats 3200000 in
theorem rview_err (p t : ByteArray) (at' wide : Int) (w : World) (hp : p.size ≤ maxLen) (ht : t.size ≤ maxLen)
    (hx : ¬ lineE t at' = 0 ∨ rowB p.data.toList = false ∨ 200 < p.size ∨ ¬ (2 ≤ wide ∧ wide ≤ 200)) :
    Calls Tryd.prog 15 #[.string p, elV t at', .int .i64 wide] w fun e w' => e = .returned (viewR p t at' wide) ∧ Below w.heap.size w w' := by
  have hmk := make200
  have hP := Lib.hid (fun W v (hv : SL W v hist200) => editForm_nil t at' v W hv ht)
  have hR := Lib.hid (fun W => visible_any p W hp)
  have HB := Lib.hid (below_two w)
  by_cases h1 : lineE t at' = 0
  · rw [h1] at hP
    cases h2 : rowB p.data.toList
    · have hfin := Lib.hid (show viewV p.data.toList t.data.toList at' wide = ([], 0, 5) by unfold viewV; rw [if_neg (by simpa using h1), if_pos (by simp [h2])])
      rw [h2] at hR
      clear hx h1 h2
      go_enter Tryd.func15, Tryd.ntmps15
      go_wp2_with fail
      go_region_with (go_at_call 41; refine (hP.out _ _ (by exact SL200b (w := w.alloc (.cells #[.string t, .int .i64 at', .string ⟨#[]⟩, .bool false, .slice none 0 0, .int .i64 0, .string ⟨#[]⟩] 34)) (by simp) (Below.refl _ _).drew)).mono ?_; rintro e w1 ⟨rfl, hb1⟩)
      all_goals
        clear hmk
        go_wp2_with (go_at_call 29; refine (hR.out _).mono ?_; rintro e w' ⟨rfl, rfl⟩)
        go_ret3
        exact ⟨viewR_of (by rw [hfin.out]), HB.out _ _ _ hb1⟩
    · rw [h2] at hR
      by_cases h3 : 200 < p.size
      · have hfin := Lib.hid (show viewV p.data.toList t.data.toList at' wide = ([], 0, 2) by unfold viewV; rw [if_neg (by simpa using h1), if_neg (by simp [h2]), if_pos (by rw [size_toList]; exact h3)])
        clear hx h1 h2
        go_enter Tryd.func15, Tryd.ntmps15
        go_wp2_with fail
        go_region_with (go_at_call 41; refine (hP.out _ _ (by exact SL200b (w := w.alloc (.cells #[.string t, .int .i64 at', .string ⟨#[]⟩, .bool false, .slice none 0 0, .int .i64 0, .string ⟨#[]⟩] 34)) (by simp) (Below.refl _ _).drew)).mono ?_; rintro e w1 ⟨rfl, hb1⟩)
        all_goals
          clear hmk
          go_wp2_with (go_at_call 29; refine (hR.out _).mono ?_; rintro e w' ⟨rfl, rfl⟩)
          go_ret3
          exact ⟨viewR_of (by rw [hfin.out]), HB.out _ _ _ hb1⟩
      · have h4 : ¬ (2 ≤ wide ∧ wide ≤ 200) := by
          rcases hx with hx | hx | hx | hx
          · exact absurd h1 hx
          · rw [h2] at hx; cases hx
          · exact absurd hx h3
          · exact hx
        have hfin := Lib.hid (show viewV p.data.toList t.data.toList at' wide = ([], 0, 3) by unfold viewV; rw [if_neg (by simpa using h1), if_neg (by simp [h2]), if_neg (by rw [size_toList]; exact h3), if_pos h4])
        have hw : wide < 2 ∨ (¬ wide < 2 ∧ 200 < wide) := by omega
        clear hx h1 h2 h4
        rcases hw with hw | ⟨hw, hw2⟩
        all_goals
          go_enter Tryd.func15, Tryd.ntmps15
          go_wp2_with fail
          go_region_with (go_at_call 41; refine (hP.out _ _ (by exact SL200b (w := w.alloc (.cells #[.string t, .int .i64 at', .string ⟨#[]⟩, .bool false, .slice none 0 0, .int .i64 0, .string ⟨#[]⟩] 34)) (by simp) (Below.refl _ _).drew)).mono ?_; rintro e w1 ⟨rfl, hb1⟩)
          all_goals
            clear hmk
            go_wp2_with (go_at_call 29; refine (hR.out _).mono ?_; rintro e w' ⟨rfl, rfl⟩)
            go_ret3
            exact ⟨viewR_of (by rw [hfin.out]), HB.out _ _ _ hb1⟩
  · have h5 : lineE t at' = 5 := by unfold lineE at *; split <;> simp_all
    have hfin := Lib.hid (show viewV p.data.toList t.data.toList at' wide = ([], 0, 5) by unfold viewV; rw [if_pos (by simpa using h1)]; rw [show lineE ⟨t.data.toList.toArray⟩ at' = 5 from by simpa using h5])
    rw [h5] at hP
    clear hx h1 h5
    go_enter Tryd.func15, Tryd.ntmps15
    go_wp2_with fail
    go_region_with (go_at_call 41; refine (hP.out _ _ (by exact SL200b (w := w.alloc (.cells #[.string t, .int .i64 at', .string ⟨#[]⟩, .bool false, .slice none 0 0, .int .i64 0, .string ⟨#[]⟩] 34)) (by simp) (Below.refl _ _).drew)).mono ?_; rintro e w1 ⟨rfl, hb1⟩)
    all_goals
      clear hmk
      go_wp2
      go_ret3
      exact ⟨viewR_of (by rw [hfin.out]), HB.out _ _ _ hb1⟩


end Go.Proofs.YtokmiommhfbkeaaDoor
