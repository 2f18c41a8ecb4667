/- What is wrong with any line and history: the reference's editForm finds what pressedE tells. -/
import Derived.Test.YtokmiommhfbkeaaGreatDoorRefT
import Derived.Laws.MakeOwn
import Derived.Deep.RegionWith
namespace Go.Proofs.YtokmiommhfbkeaaGreatDoor
open Go.RowKit

theorem strInfo3 : (Tryz.prog.info? 9).map (fun i => (i.zero, i.size, i.bytes)) = some (some (.string ByteArray.empty), 1, 16) := by kernel_rfl
def st2 (s : ByteArray × Int) : Bool := withinB s.2 0 s.1.size
def smallB (s : ByteArray) : Bool := decide ((s.size : Int) ≤ 1000)
theorem smallB_nat (s : ByteArray) : smallB s = decide (s.size ≤ 1000) := by unfold smallB; rw [decide_eq_decide]; omega
def firstT (l : EL) (k : Nat) : List ByteArray := [l.text, l.begun, l.killed] ++ (l.before.take k).map Prod.fst
def okK (l : EL) (k : Nat) : Bool := withinB l.at' 0 l.text.size && (l.before.take k).all st2
def allT (l : EL) : List ByteArray := [l.text, l.begun, l.killed] ++ l.before.map Prod.fst
def okR (l : EL) : Bool := (withinB l.at' 0 l.text.size && l.before.all st2) && (allT l).all smallB
theorem good_eq (l : EL) : goodB l = (okR l && (allT l).all fun s => cleanB s.data.toList) := by
  obtain ⟨text, a, killed, killing, before, place, begun⟩ := l
  simp only [goodB, okR, allT, List.all_append, List.all_cons, List.all_nil, Bool.and_true, List.all_map]
  have hb : before.all stateB = ((before.all st2 && before.all (smallB ∘ Prod.fst)) && before.all ((fun s => cleanB s.data.toList) ∘ Prod.fst)) := by
    induction before with
    | nil => rfl
    | cons s r ih =>
      simp only [List.all_cons, ih]
      simp only [stateB, st2, lineB, smallB_nat, Function.comp]
      cases decide (s.1.size ≤ 1000) <;> cases cleanB s.1.data.toList <;> cases withinB s.2 0 s.1.size <;> simp
  rw [hb]
  simp only [lineB, smallB_nat]
  cases withinB a 0 text.size <;> cases decide (text.size ≤ 1000) <;> cases cleanB text.data.toList <;> cases decide (begun.size ≤ 1000) <;> cases cleanB begun.data.toList <;> cases decide (killed.size ≤ 1000) <;> cases cleanB killed.data.toList <;> simp
theorem take_all {α : Type} {p : α → Bool} {l : List α} {k : Nat} (h : k < l.length) : (l.take (k + 1)).all p = ((l.take k).all p && p l[k]) := by
  rw [List.take_succ_eq_append_getElem h, List.all_append]; simp
theorem firstT_succ {l : EL} {k : Nat} (h : k < l.before.length) : firstT l (k + 1) = firstT l k ++ [l.before[k].1] := by
  unfold firstT; rw [List.take_succ_eq_append_getElem h, List.map_append]; simp
theorem firstT_len (l : EL) (k : Nat) (h : k ≤ l.before.length) : (firstT l k).length = 3 + k := by
  unfold firstT; simp; omega
theorem firstT_all (l : EL) : firstT l l.before.length = allT l := by unfold firstT allT; rw [List.take_length]
theorem own_three {w : World} {g : Nat} {x y z : ByteArray} {base : Nat} (h : w.heap[g]? = some (.cells #[.string x, .string y, .string z] 9 (0, 0))) (hb : base ≤ g) :
    w.ownsRow base 9 1 (.slice (some ⟨g, 0, none⟩) 3 3) 3 ([x, y, z].map Value.string) :=
  ⟨rfl, .inr ⟨g, 3, _, rfl, hb, h, Nat.le_refl _, by unfold maxLen; omega, rfl, rfl⟩⟩

set_option maxRecDepth 100000 in
set_option maxHeartbeats 6400000 in
theorem editForm_any (l : EL) (bv hv : Value) (h : List ByteArray) (w : World) (hb0 : ES w bv l.before) (hh : SL w hv h) (hf : Fit l) (hn : h.length ≤ 9223372036854775807) (hs : ∀ s ∈ h, s.size ≤ maxLen) :
    Calls Tryz.prog 39 #[elV2 l bv, hv] w fun e w' => e = .returned (.int .i64 (pressedE l h h.length)) ∧ Below w.heap.size w w' := by
  obtain ⟨f1, f2, f3, f4, f5⟩ := hf
  have HGE := Lib.hid (good_eq l)
  have hall : ∀ s ∈ allT l, s.size ≤ maxLen := fun s hs => by
    simp only [allT, List.mem_append, List.mem_cons, List.not_mem_nil, or_false, List.mem_map] at hs
    rcases hs with (rfl | rfl | rfl) | ⟨b, hb, rfl⟩
    · exact f1
    · exact f3
    · exact f2
    · exact f5 b hb
  have HALL := Lib.hid hall
  have HLA := Lib.hid (show (allT l).length = 3 + l.before.length by simp [allT]; omega)
  have HSUC := Lib.hid (fun k => firstT_succ (l := l) (k := k))
  have HFA := Lib.hid (firstT_all l)
  have HFL := Lib.hid (firstT_len l)
  have HOK := Lib.hid (show ∀ k (hk : k < l.before.length), okK l (k + 1) = (okK l k && st2 l.before[k]) from fun k hk => by unfold okK; rw [take_all hk, Bool.and_assoc])
  have HOK0 := Lib.hid (show okK l 0 = withinB l.at' 0 l.text.size by simp [okK])
  have HOKE := Lib.hid (show okR l = (okK l l.before.length && (allT l).all smallB) by unfold okR okK; rw [List.take_length])
  have HF0 := Lib.hid (show firstT l 0 = [l.text, l.begun, l.killed] by simp [firstT])
  have HP := Lib.hid (show pressedE l h h.length = if goodB l = false then 5 else if 100 < l.before.length ∨ histB h = false then 2 else if withinB l.place 0 h.length = false then 3 else 0 from rfl)
  have hH := Lib.hid (fun W (hb : Below w.heap.size w W) => historyForm_any h hv W (hh.keep hb) hn hs)
  obtain ⟨hA, hc0, rfl, hhc, hhcells⟩ := hh
  obtain ⟨A, c, rfl, hcap, hbc⟩ := hb0
  have HBC := Lib.hid hbc
  clear hbc hhcells hall f5
  obtain ⟨i0, hi, hz0, hz1, hz2⟩ := info_parts strInfo3
  generalize hT : firstT l = T at *
  generalize hO : okK l = O at *
  generalize allT l = AT at *
  generalize okR l = OR at *
  generalize pressedE l h h.length = PE at *
  generalize goodB l = GB at *
  clear hT hO
  obtain ⟨text, a, killed, killing, before, place, begun⟩ := l
  dsimp only at *
  unfold maxLen at f1 f2 f3
  have hwb : withinB a 0 text.size = (decide (0 ≤ a) && decide (a ≤ (text.size : Int))) := rfl
  rw [hwb] at HOK0
  clear hwb
  have hst : ∃ q, O 0 = q := ⟨_, rfl⟩
  obtain ⟨q0, hq0⟩ := hst
  have HQ0 := Lib.hid hq0
  have h00 : (decide (0 ≤ a) = true ∧ decide (a ≤ (text.size : Int)) = q0) ∨ (decide (0 ≤ a) = false ∧ q0 = false) := by
    have := HOK0.out; rw [hq0] at this
    cases h1 : decide (0 ≤ a)
    · right; rw [h1] at this; exact ⟨rfl, by simpa using this⟩
    · left; rw [h1] at this; exact ⟨rfl, by simpa using this.symm⟩
  clear hq0
  rcases h00 with ⟨h00, h01⟩ | ⟨h00, h01⟩
  all_goals
   subst h01
   go_enter Tryz.func39, Tryz.ntmps39
   go_wp2_with fail
  all_goals
    have hbox : Below (w.heap.size + 1) (w.alloc (.cells #[.string text, .int .i64 a, .string killed, .bool killing, .slice A before.length c, .int .i64 place, .string begun] 37)) ((w.alloc (.cells #[.string text, .int .i64 a, .string killed, .bool killing, .slice A before.length c, .int .i64 place, .string begun] 37)).alloc (.cells #[.string text, .string begun, .string killed] 9)) := (Below.refl _ _).alloc (by simp) _
    have hown := own_three (w := (w.alloc (.cells #[.string text, .int .i64 a, .string killed, .bool killing, .slice A before.length c, .int .i64 place, .string begun] 37)).alloc (.cells #[.string text, .string begun, .string killed] 9)) (g := w.heap.size + 1) (base := w.heap.size + 1)
      (by have := heap_alloc_new (w.alloc (.cells #[.string text, .int .i64 a, .string killed, .bool killing, .slice A before.length c, .int .i64 place, .string begun] 37)) (.cells #[.string text, .string begun, .string killed] 9); simpa using this) (Nat.le_refl _)
    have HBX := Lib.hid hbox
    have HOW := Lib.hid hown
    clear hbox hown
    go_loopw [5, 6, 32] (fun v5 v6 i wr => ∃ k : Nat, k ≤ before.length ∧ i = .int .i64 k ∧ v6 = .bool (O k) ∧ Hid (wr.ownsRow (w.heap.size + 1) 9 1 v5 (3 + k) ((T k).map Value.string)) ∧ Hid (Below (w.heap.size + 1) (w.alloc (.cells #[.string text, .int .i64 a, .string killed, .bool killing, .slice A before.length c, .int .i64 place, .string begun] 37)) wr)) (fun _ _ i _ => before.length - (intOf i).toNat)
    case atStart => exact ⟨0, Nat.zero_le _, rfl, congrArg Value.bool HQ0.out.symm, by rw [HF0.out]; exact HOW.out, HBX.out⟩
    case round =>
      obtain ⟨k, hk, rfl, rfl, HO, HB⟩ := hrel
      by_cases hlt : k < before.length
      · obtain ⟨b, off, rfl, hbw, hcell⟩ := HBC.out (by omega)
        have hc1 : wr.cell? ⟨b, off + k * 2, none⟩ = some (.string before[k].1) := ((HB.out.cell (p := ⟨b, off + k * 2, none⟩) (by show b < w.heap.size + 1; omega)).trans (World.cell?_alloc_lt w _ ⟨b, off + k * 2, none⟩ hbw)).trans (hcell k hlt).1
        have hc2 : wr.cell? ⟨b, off + k * 2 + 1, none⟩ = some (.int .i64 before[k].2) := ((HB.out.cell (p := ⟨b, off + k * 2 + 1, none⟩) (by show b < w.heap.size + 1; omega)).trans (World.cell?_alloc_lt w _ ⟨b, off + k * 2 + 1, none⟩ hbw)).trans (hcell k hlt).2
        have HT1 := Lib.hid (HSUC.out k hlt)
        have HO1 := Lib.hid (HOK.out k hlt)
        have hsz : w.heap.size + 1 ≤ wr.heap.size := by have := HB.out.size; simpa using this
        clear hcell
        generalize before[k] = s at *
        obtain ⟨t, n⟩ := s
        dsimp only at *
        have hst : st2 (t, n) = (decide (0 ≤ n) && decide (n ≤ (t.size : Int))) := rfl
        rw [hst] at HO1
        have hor : (O k = true ∧ decide (0 ≤ n) = true ∧ O (k + 1) = decide (n ≤ (t.size : Int))) ∨ (O k = true ∧ decide (0 ≤ n) = false ∧ O (k + 1) = false) ∨ (O k = false ∧ O (k + 1) = false) := by
          have := HO1.out
          cases h1 : O k
          · rw [h1] at this; exact .inr (.inr ⟨rfl, by simpa using this⟩)
          · cases h2 : decide (0 ≤ n)
            · rw [h1, h2] at this; exact .inr (.inl ⟨rfl, rfl, by simpa using this⟩)
            · rw [h1, h2] at this; exact .inl ⟨rfl, rfl, by simpa using this⟩
        clear hst
        obtain ⟨p5, c5, rfl⟩ := own_slice HO.out
        have hcr := cell_one_new (wr.alloc (.cells #[.string t, .int .i64 n] 85)) (.string t) 9
        rw [show (wr.alloc (.cells #[.string t, .int .i64 n] 85)).heap.size = wr.heap.size + 1 by simp] at hcr
        have HCR := Lib.hid hcr
        clear hcr
        rcases hor with ⟨o1, o2, o3⟩ | ⟨o1, o2, o3⟩ | ⟨o1, o3⟩
        all_goals
          have O3 := Lib.hid o3
          clear o3
          go_wp2_with (at_builtin; refine wpList_append_own _ rfl _ _ 22 rfl (w.heap.size + 1) 9 i0 (.string ByteArray.empty) 1 16 Tryz.underlying22 hi hz0 hz1 hz2 rfl (by decide) _ _ _ rfl ((HO.out.alloc _).alloc _) ⟨wr.heap.size + 1, 0, none⟩ 1 1 [.string t] rfl rfl ?c1 ?c2 ?c3 ?c4 ?c5 ?_)
          case c1 => exact HCR.out
          case c2 => intro u hu; simp at hu; subst hu; rfl
          case c3 => unfold maxLen; omega
          case c4 => omega
          case c5 => simp; omega
          intro v7 w7 hown7 hg7 _
          have hs8 : ∀ j, w7.cell? ⟨wr.heap.size, j, none⟩ = #[Value.string t, Value.int .i64 n][j]? := fun j => by
            have hne : some wr.heap.size ≠ (Value.slice p5 (3 + k) c5).ownBlock := fun e => by have := (HO.out.lt _ e.symm).2; omega
            rw [World.cell?_of_block (a := ⟨wr.heap.size, j, none⟩) (hg7.block wr.heap.size (by simp; omega) hne)]
            rw [World.cell?_alloc_lt _ _ _ (by simp), World.cell?_alloc_at _ _ _ _ rfl]
          have HB7 := Lib.hid (((HB.out.alloc hsz (.cells #[.string t, .int .i64 n] 85)).alloc (by simp; omega) (.cells #[.string t] 9)).grown hg7 (by simp; omega) (fun g hg => by have := (HO.out.lt g hg).1; omega))
          have HO7 := Lib.hid (show w7.ownsRow (w.heap.size + 1) 9 1 v7 (3 + (k + 1)) ((T (k + 1)).map Value.string) by rw [HT1.out, List.map_append]; exact hown7)
          clear hown7 hg7 hc1 hc2
          go_wp2
          go_roundw
          case rel => exact ⟨k + 1, by omega, by go_num, by rw [O3.out], HO7, HB7⟩
          case measure => simp [intOf]; omega
      · obtain rfl : k = before.length := by omega
        have HOA := Lib.hid (show wr.ownsRow (w.heap.size + 1) 9 1 _ _ (AT.map Value.string) by rw [← HFA.out]; exact HO.out)
        have HSA := Lib.hid (SL.of_own HOA.out)
        have HBW := Lib.hid (((Below.refl _ w).alloc (Nat.le_refl _) (.cells #[.string text, .int .i64 a, .string killed, .bool killing, .slice A before.length c, .int .i64 place, .string begun] 37)).trans (HB.out.mono (by omega)))
        have HBL := Lib.hid (show Blk wr w.heap.size 37 #[.string text, .int .i64 a, .string killed, .bool killing, .slice A before.length c, .int .i64 place, .string begun] from (HB.out.block w.heap.size (by omega)).trans (heap_alloc_new w _))
        have hATl : AT.length ≤ 5864062014808 := by have := HLA.out; omega
        clear HO HSUC HOK HB
        obtain ⟨A5, c5, rfl, hc5, hcells5⟩ := HSA.out
        have HC5 := Lib.hid hcells5
        clear hcells5
        go_wp2_with fail
        go_loop [6, 58] (fun v6 i => ∃ k : Nat, k ≤ AT.length ∧ i = .int .i64 k ∧ v6 = .bool (O before.length && (AT.take k).all smallB)) (fun _ i => AT.length - (intOf i).toNat)
        case atStart => exact ⟨0, Nat.zero_le _, rfl, by simp⟩
        case round =>
          obtain ⟨k, hk, rfl, rfl⟩ := hrel
          by_cases hlt : k < AT.length
          · obtain ⟨b5, off5, rfl, hb5, hcell5⟩ := HC5.out (by omega)
            have hc5 := hcell5 k hlt
            have HT1 := Lib.hid (take_all (p := smallB) hlt)
            clear hcell5
            generalize AT[k] = s at *
            have hor : ((O before.length && (AT.take k).all smallB) = true ∧ (O before.length && (AT.take (k + 1)).all smallB) = decide ((s.size : Int) ≤ 1000)) ∨ ((O before.length && (AT.take k).all smallB) = false ∧ (O before.length && (AT.take (k + 1)).all smallB) = false) := by
              rw [HT1.out, ← Bool.and_assoc]
              cases (O before.length && (AT.take k).all smallB)
              · exact .inr ⟨rfl, rfl⟩
              · exact .inl ⟨rfl, rfl⟩
            generalize (O before.length && (AT.take k).all smallB) = X at *
            rcases hor with ⟨rfl, o2⟩ | ⟨rfl, o2⟩
            all_goals
              have O2 := Lib.hid o2
              clear o2
              go_wp2
              go_round
              case rel => exact ⟨k + 1, by omega, by go_num, by rw [O2.out]⟩
              case measure => simp [intOf]; omega
          · obtain rfl : k = AT.length := by omega
            rw [List.take_length, ← HOKE.out]
            obtain ⟨cB, zB⟩ := HBL.out.cell
            have HZ0 := Lib.hid HBW.out.size
            cases hOR : OR
            · have HX := Lib.hid (show PE = 5 by rw [HP.out, if_pos (by rw [HGE.out, hOR]; rfl)])
              clear hOR
              go_wp2
              go_ret
              exact ⟨ret_int HX.out.symm, HBW.out⟩
            · have hL := Lib.hid (lineForm_any AT (.slice A5 AT.length c5) wr HSA.out (by omega) HALL.out)
              cases hCL : AT.all fun s => cleanB s.data.toList
              · have HX := Lib.hid (show PE = 5 by rw [HP.out, if_pos (by rw [HGE.out, hOR, hCL]; rfl)])
                rw [hCL] at hL
                clear hOR hCL
                go_wp2_with fail
                refine hL.out.mono ?_
                rintro e w8 ⟨rfl, hb8⟩
                have HB8 := Lib.hid (HBW.out.trans (hb8.mono HZ0.out))
                clear hb8 cB zB
                go_wp2
                go_ret
                exact ⟨ret_int HX.out.symm, HB8.out⟩
              · have hG : GB = true := by rw [HGE.out, hOR, hCL]; rfl
                have HP2 := Lib.hid (show PE = if 100 < before.length ∨ histB h = false then 2 else if withinB place 0 h.length = false then 3 else 0 by rw [HP.out, if_neg (by rw [hG]; simp)])
                rw [hCL] at hL
                clear hOR hCL hG
                have hPL : withinB place 0 h.length = (decide (0 ≤ place) && decide (place ≤ (h.length : Int))) := rfl
                have HPL := Lib.hid hPL
                clear hPL
                by_cases h100 : 100 < before.length
                · have HX := Lib.hid (show PE = 2 by rw [HP2.out, if_pos (.inl h100)])
                  have h1i : decide ((100 : Int) < (before.length : Int)) = true := by rw [decide_eq_true_iff]; omega
                  clear h100
                  go_wp2_with fail
                  refine hL.out.mono ?_
                  rintro e w8 ⟨rfl, hb8⟩
                  have HB8 := Lib.hid (HBW.out.trans (hb8.mono HZ0.out))
                  obtain ⟨cB8, zB8⟩ := (HBL.out.below hb8 HBL.out.lt).cell
                  clear hb8 cB zB
                  go_wp2
                  go_ret
                  exact ⟨ret_int HX.out.symm, HB8.out⟩
                · have h1i : decide ((100 : Int) < (before.length : Int)) = false := by rw [decide_eq_false_iff_not]; omega
                  cases hHB : histB h
                  · have HX := Lib.hid (show PE = 2 by rw [HP2.out, if_pos (.inr hHB)])
                    have HH2 := Lib.hid (show histE h = 2 by unfold histE; rw [hHB]; rfl)
                    rw [HH2.out] at hH
                    clear h100 hHB
                    go_wp2_with fail
                    refine hL.out.mono ?_
                    rintro e w8 ⟨rfl, hb8⟩
                    have HB8 := Lib.hid (HBW.out.trans (hb8.mono HZ0.out))
                    obtain ⟨cB8, zB8⟩ := (HBL.out.below hb8 HBL.out.lt).cell
                    clear hb8 cB zB
                    go_wp2_with fail
                    refine (hH.out _ HB8.out).mono ?_
                    rintro e w9 ⟨rfl, hb9⟩
                    have HB9 := Lib.hid (HB8.out.trans (hb9.mono HB8.out.size))
                    clear hb9 cB8 zB8
                    go_wp2
                    go_ret
                    exact ⟨ret_int HX.out.symm, HB9.out⟩
                  · have HH2 := Lib.hid (show histE h = 0 by unfold histE; rw [hHB]; rfl)
                    have HP3 := Lib.hid (show PE = if (decide (0 ≤ place) && decide (place ≤ (h.length : Int))) = false then 3 else 0 by rw [HP2.out, if_neg (by rw [hHB]; simp; omega), HPL.out])
                    rw [HH2.out] at hH
                    clear h100 hHB
                    go_wp2_with fail
                    refine hL.out.mono ?_
                    rintro e w8 ⟨rfl, hb8⟩
                    have HB8 := Lib.hid (HBW.out.trans (hb8.mono HZ0.out))
                    have HBL8 := Lib.hid (HBL.out.below hb8 HBL.out.lt)
                    obtain ⟨cB8, zB8⟩ := HBL8.out.cell
                    clear hb8 cB zB
                    go_wp2_with fail
                    refine (hH.out _ HB8.out).mono ?_
                    rintro e w9 ⟨rfl, hb9⟩
                    have HB9 := Lib.hid (HB8.out.trans (hb9.mono HB8.out.size))
                    obtain ⟨cB9, zB9⟩ := (HBL8.out.below hb9 HBL8.out.lt).cell
                    clear hb9 cB8 zB8
                    by_cases hp1 : place < 0
                    · have HX := Lib.hid (show PE = 3 by rw [HP3.out, decide_eq_false (by omega)]; rfl)
                      go_wp2
                      go_ret
                      exact ⟨ret_int HX.out.symm, HB9.out⟩
                    · by_cases hp2 : (h.length : Int) < place
                      · have HX := Lib.hid (show PE = 3 by rw [HP3.out, decide_eq_false (show ¬ place ≤ (h.length : Int) by omega), Bool.and_false]; rfl)
                        go_wp2
                        go_ret
                        exact ⟨ret_int HX.out.symm, HB9.out⟩
                      · have HX := Lib.hid (show PE = 0 by rw [HP3.out, decide_eq_true (show 0 ≤ place by omega), decide_eq_true (show place ≤ (h.length : Int) by omega)]; rfl)
                        go_wp2
                        go_ret
                        exact ⟨ret_int HX.out.symm, HB9.out⟩

end Go.Proofs.YtokmiommhfbkeaaGreatDoor
