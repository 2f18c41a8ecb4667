/- Any line, history and key: the program's pressed and rightKey find what pressedE and keyE tell. -/
import Derived.Test.YtokmiommhfbkeaaGreatDoorEdit
import Derived.Test.YtokmiommhfbkeaaGreatDoorESB
namespace Go.Proofs.YtokmiommhfbkeaaGreatDoor
open Go.RowKit

/-- a line as a value -/
abbrev elV2 (l : EL) (bv : Value) : Value := .agg #[.string l.text, .int .i64 l.at', .string l.killed, .bool l.killing, bv, .int .i64 l.place, .string l.begun]
/-- no text of a line is larger than memory -/
def Fit (l : EL) : Prop := l.text.size ≤ maxLen ∧ l.killed.size ≤ maxLen ∧ l.begun.size ≤ maxLen ∧ l.before.length ≤ 5864062014805 ∧ ∀ s ∈ l.before, s.1.size ≤ maxLen

theorem box_keep' {w w1 : World} {cs : Array Value} {b : Nat} (h : ∀ j, w.cell? ⟨b, j, none⟩ = cs[j]?) (hlt : b < w.heap.size) (hb : Below w.heap.size w w1) : (∀ j, w1.cell? ⟨b, j, none⟩ = cs[j]?) ∧ b < w1.heap.size :=
  ⟨fun j => (hb.cell (p := ⟨b, j, none⟩) hlt).trans (h j), Nat.lt_of_lt_of_le hlt hb.size⟩
theorem box_new' (w : World) (cs : Array Value) (t : TypeId) : (∀ j, (w.alloc (.cells cs t)).cell? ⟨w.heap.size, j, none⟩ = cs[j]?) ∧ w.heap.size < (w.alloc (.cells cs t)).heap.size :=
  ⟨fun j => by rw [World.cell?_alloc_at _ _ _ _ rfl], by simp⟩

set_option maxHeartbeats 800000 in
theorem wrongState_any (s : ByteArray × Int) (w : World) (hs : s.1.size ≤ maxLen) :
    Calls Tryz.prog 132 #[.agg #[.string s.1, .int .i64 s.2]] w fun e w' => e = .returned (.bool (!stateB s)) ∧ Below w.heap.size w w' := by
  obtain ⟨t, n⟩ := s
  dsimp only at *
  have hI := Lib.hid (fun W => isLine_any t W hs)
  have hbx := box_new' w #[.string t, .int .i64 n] 85
  cases h1 : lineB t
  · have hfin := Lib.hid (show stateB (t, n) = false by simp [stateB, h1])
    rw [h1] at hI
    clear h1 hbx
    go_enter Tryz.func132, Tryz.ntmps132
    go_wp2_with (go_at_call 130; refine (hI.out _).mono ?_; rintro e w1 ⟨rfl, hb1⟩)
    go_ret
    exact ⟨ret_bool (by rw [hfin.out]; rfl), ((Below.refl _ w).alloc (Nat.le_refl _) _).trans (hb1.mono (by simp))⟩
  · have hfin := Lib.hid (show stateB (t, n) = withinB n 0 t.size by simp [stateB, h1])
    rw [h1] at hI
    clear h1
    go_enter Tryz.func132, Tryz.ntmps132
    go_wp2_with fail
    refine (hI.out _).mono ?_
    rintro e w1 ⟨rfl, hb1⟩
    obtain ⟨c1, l1⟩ := box_keep' hbx.1 hbx.2 hb1
    clear hbx
    go_wp2_with (go_at_call 53; refine (within_any _ _ _ _).mono ?_; rintro e w' ⟨rfl, rfl⟩)
    go_ret
    exact ⟨ret_bool (by rw [hfin.out]), ((Below.refl _ w).alloc (Nat.le_refl _) _).trans (hb1.mono (by simp))⟩

set_option maxRecDepth 100000 in
set_option maxHeartbeats 1600000 in
theorem rightLine_any (l : EL) (bv : Value) (w : World) (hv : ES w bv l.before) (hf : Fit l) :
    Calls Tryz.prog 75 #[elV2 l bv] w fun e w' => e = .returned (.bool (goodB l)) ∧ Below w.heap.size w w' := by
  obtain ⟨f1, f2, f3, f4, f5⟩ := hf
  have hg : goodB l = (withinB l.at' 0 l.text.size && lineB l.text && lineB l.begun && lineB l.killed && l.before.all stateB) := rfl
  obtain ⟨text, a, killed, killing, before, place, begun⟩ := l
  dsimp only at *
  have hI1 := Lib.hid (fun W => isLine_any text W f1)
  have hI2 := Lib.hid (fun W => isLine_any begun W f3)
  have hI3 := Lib.hid (fun W => isLine_any killed W f2)
  have hS := Lib.hid (fun W (hb : Below w.heap.size w W) => containsStates_any 132 (enters_of Tryz.func132 (by kernel_rfl) rfl) (fun s => !stateB s) before bv W (hv.keep hb) (by omega) (fun s h W' _ => wrongState_any s W' (f5 s h)))
  rw [show (before.any fun s => !stateB s) = !before.all stateB by rw [List.all_eq_not_any_not, Bool.not_not]] at hS
  have hbx := box_new' w #[.string text, .int .i64 a, .string killed, .bool killing, bv, .int .i64 place, .string begun] 37
  have hb0 := (Below.refl _ w).alloc (Nat.le_refl _) (.cells #[.string text, .int .i64 a, .string killed, .bool killing, bv, .int .i64 place, .string begun] 37)
  have HB0 := Lib.hid hb0
  clear hv f1 f2 f3 f4 f5 hb0
  cases h1 : withinB a 0 text.size
  · have hfin := Lib.hid (hg.trans (by rw [h1]))
    clear hg hbx
    go_enter Tryz.func75, Tryz.ntmps75
    go_wp2_with (go_at_call 53; refine (within_any _ _ _ _).mono ?_; rintro e w' ⟨rfl, rfl⟩)
    go_ret
    exact ⟨ret_bool hfin.out.symm, HB0.out⟩
  · cases h2 : lineB text
    · have hfin := Lib.hid (hg.trans (by rw [h1, h2]))
      rw [h2] at hI1
      clear hg hbx h2
      go_enter Tryz.func75, Tryz.ntmps75
      go_wp2_with (first | (go_at_call 53; refine (within_any _ _ _ _).mono ?_; rintro e w' ⟨rfl, rfl⟩) | (go_at_call 130; refine (hI1.out _).mono ?_; rintro e w1 ⟨rfl, hb1⟩))
      go_ret
      exact ⟨ret_bool hfin.out.symm, HB0.out.trans (hb1.mono HB0.out.size)⟩
    · cases h3 : lineB begun
      · have hfin := Lib.hid (hg.trans (by rw [h1, h2, h3]))
        rw [h2] at hI1
        rw [h3] at hI2
        clear hg h2 h3
        go_enter Tryz.func75, Tryz.ntmps75
        go_wp2_with (first | (go_at_call 53; refine (within_any _ _ _ _).mono ?_; rintro e w' ⟨rfl, rfl⟩))
        refine (hI1.out _).mono ?_
        rintro e w1 ⟨rfl, hb1⟩
        obtain ⟨c1, l1⟩ := box_keep' hbx.1 hbx.2 hb1
        have HB1 := Lib.hid (HB0.out.trans (hb1.mono HB0.out.size))
        clear hbx hb1
        go_wp2_with fail
        refine (hI2.out _).mono ?_
        rintro e w2 ⟨rfl, hb2⟩
        go_wp2
        go_ret
        exact ⟨ret_bool hfin.out.symm, HB1.out.trans (hb2.mono HB1.out.size)⟩
      · cases h4 : lineB killed
        all_goals
          have hfin := Lib.hid (hg.trans (by rw [h1, h2, h3, h4]))
          rw [h2] at hI1
          rw [h3] at hI2
          rw [h4] at hI3
          clear hg h2 h3 h4
          go_enter Tryz.func75, Tryz.ntmps75
          go_wp2_with (first | (go_at_call 53; refine (within_any _ _ _ _).mono ?_; rintro e w' ⟨rfl, rfl⟩))
          refine (hI1.out _).mono ?_
          rintro e w1 ⟨rfl, hb1⟩
          obtain ⟨c1, l1⟩ := box_keep' hbx.1 hbx.2 hb1
          have HB1 := Lib.hid (HB0.out.trans (hb1.mono HB0.out.size))
          clear hbx hb1
          go_wp2_with fail
          refine (hI2.out _).mono ?_
          rintro e w2 ⟨rfl, hb2⟩
          obtain ⟨c2, l2⟩ := box_keep' c1 l1 hb2
          have HB2 := Lib.hid (HB1.out.trans (hb2.mono HB1.out.size))
          clear c1 hb2
          go_wp2_with fail
          refine (hI3.out _).mono ?_
          rintro e w3 ⟨rfl, hb3⟩
          obtain ⟨c3, l3⟩ := box_keep' c2 l2 hb3
          have HB3 := Lib.hid (HB2.out.trans (hb3.mono HB2.out.size))
          clear c2 hb3
        · go_wp2
          go_ret
          exact ⟨ret_bool hfin.out.symm, HB3.out⟩
        · go_wp2_with fail
          refine (hS.out _ HB3.out).mono ?_
          rintro e w4 ⟨rfl, hb4⟩
          go_wp2
          go_ret
          exact ⟨ret_bool (by rw [hfin.out]; simp), HB3.out.trans (hb4.mono HB3.out.size)⟩

theorem keep_slice {W W' : World} {v : Value} {l : List ByteArray} (h : SL W v l) (hb : Below W.heap.size W W') : SL W' v l := h.keep hb

set_option maxRecDepth 100000 in
set_option maxHeartbeats 1600000 in
theorem pressed_any (l : EL) (bv : Value) (h : List ByteArray) (hv : Value) (lines : Int) (w : World) (hb0 : ES w bv l.before) (hh : SL w hv h) (hf : Fit l) (hn : h.length ≤ 9223372036854775807) (hs : ∀ s ∈ h, s.size ≤ maxLen) :
    Calls Tryz.prog 31 #[elV2 l bv, hv, .int .i64 lines] w fun e w' => e = .returned (.int .i64 (pressedE l h lines)) ∧ Below w.heap.size w w' := by
  have hL := Lib.hid (fun W (hb : Below w.heap.size w W) => rightLine_any l bv W (hb0.keep hb) hf)
  have hH := Lib.hid (fun W (hb : Below w.heap.size w W) => rightHistory_any h hv W (hh.keep hb) hn hs)
  have hlen : l.before.length ≤ 5864062014805 := hf.2.2.2.1
  have hp : pressedE l h lines = if goodB l = false then 5 else if 100 < l.before.length ∨ histB h = false then 2 else if withinB l.place 0 lines = false then 3 else 0 := rfl
  obtain ⟨A, c, rfl, hc, hcells⟩ := hb0
  clear hcells hh
  generalize hgl : goodB l = gl at *
  generalize hgh : histB h = gh at *
  obtain ⟨text, a, killed, killing, before, place, begun⟩ := l
  dsimp only at *
  have hbx := box_new' w #[.string text, .int .i64 a, .string killed, .bool killing, .slice A before.length c, .int .i64 place, .string begun] 37
  have HB0 := Lib.hid ((Below.refl _ w).alloc (Nat.le_refl _) (.cells #[.string text, .int .i64 a, .string killed, .bool killing, .slice A before.length c, .int .i64 place, .string begun] 37))
  cases gl
  · have hfin := Lib.hid (hp.trans (if_pos rfl))
    clear hp hbx hgl hgh
    go_enter Tryz.func31, Tryz.ntmps31
    go_wp2_with fail
    refine (hL.out _ HB0.out).mono ?_
    rintro e w1 ⟨rfl, hb1⟩
    go_wp2
    go_ret
    exact ⟨ret_int hfin.out.symm, HB0.out.trans (hb1.mono HB0.out.size)⟩
  · have hp2 := hp.trans (if_neg (by simp))
    by_cases hlong : 100 < before.length
    · have hfin := Lib.hid (hp2.trans (if_pos (.inl hlong)))
      clear hp hp2 hgl hgh
      go_enter Tryz.func31, Tryz.ntmps31
      go_wp2_with fail
      refine (hL.out _ HB0.out).mono ?_
      rintro e w1 ⟨rfl, hb1⟩
      obtain ⟨c1, l1⟩ := box_keep' hbx.1 hbx.2 hb1
      have HB1 := Lib.hid (HB0.out.trans (hb1.mono HB0.out.size))
      clear hbx hb1
      go_wp2
      go_ret
      exact ⟨ret_int hfin.out.symm, HB1.out⟩
    · have hd : decide ((100 : Int) < before.length) = false := by rw [decide_eq_false_iff_not]; omega
      cases gh
      · have hfin := Lib.hid (hp2.trans (if_pos (.inr rfl)))
        clear hp hp2 hgl hgh hlong
        go_enter Tryz.func31, Tryz.ntmps31
        go_wp2_with fail
        refine (hL.out _ HB0.out).mono ?_
        rintro e w1 ⟨rfl, hb1⟩
        obtain ⟨c1, l1⟩ := box_keep' hbx.1 hbx.2 hb1
        have HB1 := Lib.hid (HB0.out.trans (hb1.mono HB0.out.size))
        clear hbx hb1
        go_wp2_with fail
        refine (hH.out _ HB1.out).mono ?_
        rintro e w2 ⟨rfl, hb2⟩
        go_wp2
        go_ret
        exact ⟨ret_int hfin.out.symm, HB1.out.trans (hb2.mono HB1.out.size)⟩
      · have hp3 := hp2.trans (if_neg (by simpa using hlong))
        cases hw : withinB place 0 lines
        all_goals
          have hfin := Lib.hid (hp3.trans (by rw [hw]))
          clear hp hp2 hp3 hgl hgh hlong
          go_enter Tryz.func31, Tryz.ntmps31
          go_wp2_with fail
          refine (hL.out _ HB0.out).mono ?_
          rintro e w1 ⟨rfl, hb1⟩
          obtain ⟨c1, l1⟩ := box_keep' hbx.1 hbx.2 hb1
          have HB1 := Lib.hid (HB0.out.trans (hb1.mono HB0.out.size))
          clear hbx hb1
          go_wp2_with fail
          refine (hH.out _ HB1.out).mono ?_
          rintro e w2 ⟨rfl, hb2⟩
          obtain ⟨c2, l2⟩ := box_keep' c1 l1 hb2
          have HB2 := Lib.hid (HB1.out.trans (hb2.mono HB1.out.size))
          clear c1 hb2
          go_wp2_with (go_at_call 53; refine (within_any _ _ _ _).mono ?_; rintro e w' ⟨rfl, rfl⟩)
          go_ret
          exact ⟨ret_int (by rw [hfin.out]; rfl), HB2.out⟩

set_option maxRecDepth 100000 in
set_option maxHeartbeats 1600000 in
theorem rightKey_any (kind byte : Int) (w : World) :
    Calls Tryz.prog 32 #[.agg #[.int .i64 kind, .int .i64 byte]] w fun e w' => e = .returned (.int .i64 (keyE kind byte)) ∧ Below w.heap.size w w' := by
  have hk : keyE kind byte = if withinB kind 1 22 = false then 4 else if ¬ kind = 1 ∧ ¬ kind = 22 ∧ ¬ byte = 0 then 5 else if kind = 1 ∧ withinB byte 32 126 = false ∧ withinB byte 128 255 = false then 3 else if kind = 22 ∧ (withinB byte 1 255 = false ∨ byte = 10) then 3 else 0 := rfl
  have HK := Lib.hid hk
  clear hk
  have HB0 := Lib.hid ((Below.refl _ w).alloc (Nat.le_refl _) (.cells #[.int .i64 kind, .int .i64 byte] 42))
  by_cases h1 : kind = 1
  · subst h1
    have hw : withinB 1 1 22 = true := by decide
    cases a1 : withinB byte 32 126 <;> cases a2 : withinB byte 128 255
    all_goals
      go_enter Tryz.func32, Tryz.ntmps32
      go_wp2_with (go_at_call 53; refine (within_any _ _ _ _).mono ?_; rintro e w' ⟨rfl, rfl⟩)
      go_ret
      exact ⟨ret_int (by rw [HK.out, hw, a1, a2]; simp), HB0.out⟩
  · have e1 : (kind == 1) = false := by rw [beq_eq_false_iff_ne]; exact h1
    by_cases h2 : kind = 22
    · subst h2
      have hw : withinB 22 1 22 = true := by decide
      cases a1 : withinB byte 1 255
      · clear h1
        go_enter Tryz.func32, Tryz.ntmps32
        go_wp2_with (go_at_call 53; refine (within_any _ _ _ _).mono ?_; rintro e w' ⟨rfl, rfl⟩)
        go_ret
        exact ⟨ret_int (by rw [HK.out, hw, a1]; simp), HB0.out⟩
      · cases hx : (byte == 10)
        all_goals
          clear h1
          go_enter Tryz.func32, Tryz.ntmps32
          go_wp2_with (go_at_call 53; refine (within_any _ _ _ _).mono ?_; rintro e w' ⟨rfl, rfl⟩)
          go_ret
          exact ⟨ret_int (by rw [HK.out, hw, a1]; simp at hx; simp [hx]), HB0.out⟩
    · have e2 : (kind == 22) = false := by rw [beq_eq_false_iff_ne]; exact h2
      cases hw : withinB kind 1 22
      · have H1 := Lib.hid h1
        have H2 := Lib.hid h2
        clear h1 h2
        go_enter Tryz.func32, Tryz.ntmps32
        go_wp2_with (go_at_call 53; refine (within_any _ _ _ _).mono ?_; rintro e w' ⟨rfl, rfl⟩)
        go_ret
        exact ⟨ret_int (by rw [HK.out, hw]; simp), HB0.out⟩
      · cases hx : (byte != 0)
        all_goals
          have H1 := Lib.hid h1
          have H2 := Lib.hid h2
          clear h1 h2
          go_enter Tryz.func32, Tryz.ntmps32
          go_wp2_with (go_at_call 53; refine (within_any _ _ _ _).mono ?_; rintro e w' ⟨rfl, rfl⟩)
          go_ret
          exact ⟨ret_int (by rw [HK.out, hw]; simp at hx; simp [hx, H1.out, H2.out]), HB0.out⟩

end Go.Proofs.YtokmiommhfbkeaaGreatDoor
