/- The reference's Press gives the line that pressL tells: errors, undo, the history. -/
import Derived.Test.YtokmiommhfbkeaaGreatDoorRefF
import Derived.Test.YtokmiommhfbkeaaGreatDoorRefQ
import Derived.Test.YtokmiommhfbkeaaGreatDoorPressD
import Derived.Deep.Cut
namespace Go.Proofs.YtokmiommhfbkeaaGreatDoor
open Go.RowKit

theorem rPress_end {W : World} {g : Nat} {v0 v1 v2 v3 v4 v5 v6 n : Value} {tmps : Array Value} {R : Ending → World → Prop} (hk : Blk W g 37 #[v0, v1, v2, v3, v4, v5, v6]) (h6 : tmps.getD 6 undef = .pointer (some ⟨g, 0, none⟩)) (h7 : tmps.getD 7 undef = n)
    (hR : R (.returned (.tuple #[.agg #[v0, v1, v2, v3, v4, v5, v6], n])) W) : bodyPost Tryz.prog Tryz.f16 R .ret { tmps := tmps, defers := [] } W := by
  obtain ⟨c, z⟩ := hk.cell
  rw [Array.getD_eq_getD_getElem?] at h6 h7
  refine bodyPost_ret (v := .tuple #[.agg #[v0, v1, v2, v3, v4, v5, v6], n]) ?_ rfl hR
  simp [results, Tryz.results16, go_sem, h6, h7, c]
theorem RTurned.below {w w1 : World} {b B : Nat} {cs : Array Value} (h : RTurned w b cs w1) (hB : B ≤ b) (hw : B ≤ w.heap.size) : Below B w w1 :=
  ⟨h.1.os, h.1.tape, h.1.output, h.1.size, fun i hi => h.1.block i (by omega) (by intro e; injection e with e; omega)⟩
theorem Blk.rturned {w w' : World} {g b : Nat} {t : TypeId} {cs ds : Array Value} (h : Blk w g t cs) (hT : RTurned w b ds w') (hg : g ≠ b) : Blk w' g t cs := (hT.1.block g h.lt (by simpa using hg)).trans h
theorem own_rturned {w w' : World} {b B : Nat} {cs : Array Value} {e : TypeId} {v : Value} {n s : Nat} {xs : List Value} (h : w.ownsRow B e s v n xs) (hT : RTurned w b cs w') (hb : b < B) : w'.ownsRow B e s v n xs := by
  refine h.kept hT.1 ?_
  rcases hv : v.ownBlock with _ | k
  · exact .inl rfl
  · refine .inr fun e => ?_
    have := (h.lt k hv).1
    injection e with e
    omega
theorem ES.afar {w : World} {v : Value} {l : List (ByteArray × Int)} {B : Nat} (h : ES w v l) (hv : ∀ k, v.ownBlock = some k → B < k) (i : Nat) (u : Value) : ES (w.setCell ⟨B, i, none⟩ u) v l := by
  obtain ⟨A, c, rfl, hc, h⟩ := h
  refine ⟨A, c, rfl, hc, fun hp => ?_⟩
  obtain ⟨b, off, rfl, hlt, hcell⟩ := h hp
  have hb : B < b := hv b rfl
  refine ⟨b, off, rfl, by simpa [World.setCell] using hlt, fun j hj => ⟨?_, ?_⟩⟩
  · rw [World.cell?_setCell_other _ _ _ _ (by intro e; injection e; omega)]; exact (hcell j hj).1
  · rw [World.cell?_setCell_other _ _ _ _ (by intro e; injection e; omega)]; exact (hcell j hj).2
/-- the seven stores of a result -/
theorem ES.seven {w : World} {v : Value} {l : List (ByteArray × Int)} {B : Nat} (h : ES w v l) (hv : ∀ k, v.ownBlock = some k → B < k) (u0 u1 u2 u3 u4 u5 u6 : Value) :
    ES (((((((w.setCell ⟨B, 0, none⟩ u0).setCell ⟨B, 1, none⟩ u1).setCell ⟨B, 2, none⟩ u2).setCell ⟨B, 3, none⟩ u3).setCell ⟨B, 4, none⟩ u4).setCell ⟨B, 5, none⟩ u5).setCell ⟨B, 6, none⟩ u6) v l :=
  ((((((h.afar hv 0 u0).afar hv 1 u1).afar hv 2 u2).afar hv 3 u3).afar hv 4 u4).afar hv 5 u5).afar hv 6 u6
theorem below_seven {B0 B : Nat} {w0 w : World} (h : Below B0 w0 w) (hB : B0 ≤ B) (u0 u1 u2 u3 u4 u5 u6 : Value) :
    Below B0 w0 (((((((w.setCell ⟨B, 0, none⟩ u0).setCell ⟨B, 1, none⟩ u1).setCell ⟨B, 2, none⟩ u2).setCell ⟨B, 3, none⟩ u3).setCell ⟨B, 4, none⟩ u4).setCell ⟨B, 5, none⟩ u5).setCell ⟨B, 6, none⟩ u6) :=
  ((((((h.setCell (by exact hB) _).setCell (by exact hB) _).setCell (by exact hB) _).setCell (by exact hB) _).setCell (by exact hB) _).setCell (by exact hB) _).setCell (by exact hB) _

theorem blk_new_at {w : World} {g : Nat} (h : w.heap.size = g) (cs : Array Value) (t : TypeId) : Blk (w.alloc (.cells cs t)) g t cs := by subst h; exact heap_alloc_new w _
theorem keyE_bad {kind byte : Int} (h : ¬ keyE kind byte = 0) :
    (keyE kind byte = 4 ∧ (kind < 1 ∨ ¬ kind < 1 ∧ 22 < kind)) ∨
    (keyE kind byte = 5 ∧ 1 ≤ kind ∧ kind ≤ 22 ∧ ¬ kind = 1 ∧ ¬ kind = 22 ∧ ¬ byte = 0) ∨
    (keyE kind byte = 3 ∧ kind = 1 ∧ (byte < 32 ∨ ¬ byte < 32 ∧ byte = 127 ∨ ¬ byte < 32 ∧ ¬ byte = 127 ∧ 255 < byte)) ∨
    (keyE kind byte = 3 ∧ kind = 22 ∧ (byte < 1 ∨ ¬ byte < 1 ∧ 255 < byte ∨ ¬ byte < 1 ∧ ¬ 255 < byte ∧ byte = 10)) := by
  have w1 : ∀ lo hi n, withinB n lo hi = false ↔ ¬ (lo ≤ n ∧ n ≤ hi) := fun lo hi n => by simp [withinB]
  unfold keyE at h ⊢
  simp only [w1] at h ⊢
  by_cases h1 : ¬ (1 ≤ kind ∧ kind ≤ 22)
  · left; rw [if_pos h1]; exact ⟨rfl, by omega⟩
  · rw [if_neg h1] at h ⊢
    by_cases h2 : ¬ kind = 1 ∧ ¬ kind = 22 ∧ ¬ byte = 0
    · right; left; rw [if_pos h2]; exact ⟨rfl, by omega, by omega, h2.1, h2.2.1, h2.2.2⟩
    · rw [if_neg h2] at h ⊢
      by_cases h3 : kind = 1 ∧ ¬ (32 ≤ byte ∧ byte ≤ 126) ∧ ¬ (128 ≤ byte ∧ byte ≤ 255)
      · right; right; left; rw [if_pos h3]; exact ⟨rfl, h3.1, by omega⟩
      · rw [if_neg h3] at h ⊢
        by_cases h4 : kind = 22 ∧ (¬ (1 ≤ byte ∧ byte ≤ 255) ∨ byte = 10)
        · right; right; right; rw [if_pos h4]; exact ⟨rfl, h4.1, by omega⟩
        · rw [if_neg h4] at h; exact absurd rfl h
theorem keyE_good {kind byte : Int} (h : keyE kind byte = 0) :
    (kind = 1 ∧ ¬ byte < 32 ∧ ¬ byte = 127 ∧ ¬ 255 < byte) ∨ (kind = 22 ∧ ¬ byte < 1 ∧ ¬ 255 < byte ∧ ¬ byte = 10) ∨ (¬ kind < 1 ∧ ¬ 22 < kind ∧ ¬ kind = 1 ∧ ¬ kind = 22 ∧ byte = 0) := by
  have w1 : ∀ lo hi n, withinB n lo hi = false ↔ ¬ (lo ≤ n ∧ n ≤ hi) := fun lo hi n => by simp [withinB]
  unfold keyE at h
  simp only [w1] at h
  by_cases h1 : ¬ (1 ≤ kind ∧ kind ≤ 22)
  · rw [if_pos h1] at h; omega
  · rw [if_neg h1] at h
    by_cases h2 : ¬ kind = 1 ∧ ¬ kind = 22 ∧ ¬ byte = 0
    · rw [if_pos h2] at h; omega
    · rw [if_neg h2] at h
      by_cases h3 : kind = 1 ∧ ¬ (32 ≤ byte ∧ byte ≤ 126) ∧ ¬ (128 ≤ byte ∧ byte ≤ 255)
      · rw [if_pos h3] at h; omega
      · rw [if_neg h3] at h
        by_cases h4 : kind = 22 ∧ (¬ (1 ≤ byte ∧ byte ≤ 255) ∨ byte = 10)
        · rw [if_pos h4] at h; omega
        · omega

set_option maxRecDepth 100000 in
set_option maxHeartbeats 3200000 in
theorem rPress_err1 (l : EL) (bv hv : Value) (h : List ByteArray) (kind byte : Int) (w : World) (hb0 : ES w bv l.before) (hh : SL w hv h) (hf : Fit l) (hn : h.length ≤ 9223372036854775807) (hs : ∀ s ∈ h, s.size ≤ maxLen) (hx : ¬ pressedE l h h.length = 0) :
    Calls Tryz.prog 16 #[elV2 l bv, hv, .agg #[.int .i64 kind, .int .i64 byte]] w (PressPost w (pressL l h kind byte)) := by
  have hP := Lib.hid (fun W (hb : Below w.heap.size w W) => editForm_any l bv hv h W (hb0.keep hb) (hh.keep hb) hf hn hs)
  rw [pressL_err1 hx]
  have hx2 : (pressedE l h h.length != 0) = true := by rw [bne_iff_ne]; exact hx
  obtain ⟨A, c, rfl, hc, hcells⟩ := hh
  have HB := Lib.hid (fun o1 o2 o3 => (((Below.refl _ w).alloc (Nat.le_refl _) o1).alloc (by simp) o2).alloc (by simp; omega) o3)
  clear hx hcells hf hs hb0
  generalize pressedE l h h.length = n at *
  obtain ⟨text, a, killed, killing, before, place, begun⟩ := l
  go_enter Tryz.func16, Tryz.ntmps16
  go_wp2_with fail
  have hbx := three_boxes w #[.string text, .int .i64 a, .string killed, .bool killing, bv, .int .i64 place, .string begun] #[.int .i64 kind, .int .i64 byte] zeroL 37 42 37
  obtain ⟨x1, x2, x3⟩ := hbx
  have X3 := Lib.hid x3
  clear x1 x2 x3
  refine (hP.out _ (HB.out _ _ _)).mono ?_
  rintro e w1 ⟨rfl, hb1⟩
  have HB1 := Lib.hid ((HB.out _ _ _).trans (hb1.mono (HB.out _ _ _).size))
  have k3 := X3.out.below hb1 X3.out.lt
  obtain ⟨c3, z3⟩ := k3.cell
  have K3 := Lib.hid k3
  clear hb1 k3 X3
  go_wp2
  refine rPress_end (((((((K3.out.set_ 0 _).set_ 1 _).set_ 2 _).set_ 3 _).set_ 4 _).set_ 5 _).set_ 6 _) rfl rfl ⟨.slice none 0 0, rfl, ES.nil _, (fun k hk => by cases hk), ?_⟩
  exact below_seven HB1.out (by omega) _ _ _ _ _ _ _

set_option maxRecDepth 100000 in
set_option maxHeartbeats 3200000 in
theorem rPress_err2 (l : EL) (bv hv : Value) (h : List ByteArray) (kind byte : Int) (w : World) (hb0 : ES w bv l.before) (hh : SL w hv h) (hf : Fit l) (hn : h.length ≤ 9223372036854775807) (hs : ∀ s ∈ h, s.size ≤ maxLen) (h0 : pressedE l h h.length = 0) (hx : ¬ keyE kind byte = 0) :
    Calls Tryz.prog 16 #[elV2 l bv, hv, .agg #[.int .i64 kind, .int .i64 byte]] w (PressPost w (pressL l h kind byte)) := by
  have hP := Lib.hid (fun W (hb : Below w.heap.size w W) => editForm_any l bv hv h W (hb0.keep hb) (hh.keep hb) hf hn hs)
  rw [h0] at hP
  rw [pressL_err2 h0 hx]
  obtain ⟨A, c, rfl, hc, hcells⟩ := hh
  have HB := Lib.hid (fun o1 o2 o3 => (((Below.refl _ w).alloc (Nat.le_refl _) o1).alloc (by simp) o2).alloc (by simp; omega) o3)
  have hbad := keyE_bad hx
  clear h0 hx hcells hf hs hb0
  generalize hke : keyE kind byte = n at *
  have HKE := Lib.hid hke
  clear hke
  obtain ⟨text, a, killed, killing, before, place, begun⟩ := l
  rcases hbad with ⟨rfl, h1 | ⟨h1, h2⟩⟩ | ⟨rfl, h1, h2, h3, h4, h5⟩ | ⟨rfl, rfl, h1 | ⟨h1, h2⟩ | ⟨h1, h2, h3⟩⟩ | ⟨rfl, rfl, h1 | ⟨h1, h2⟩ | ⟨h1, h2, h3⟩⟩
  · go_enter Tryz.func16, Tryz.ntmps16
    go_wp2_with fail
    have hbx := three_boxes w #[.string text, .int .i64 a, .string killed, .bool killing, bv, .int .i64 place, .string begun] #[.int .i64 kind, .int .i64 byte] zeroL 37 42 37
    obtain ⟨x1, x2, x3⟩ := hbx
    have X3 := Lib.hid x3
    have X2 := Lib.hid x2
    clear x1 x2 x3
    refine (hP.out _ (HB.out _ _ _)).mono ?_
    rintro e w1 ⟨rfl, hb1⟩
    have HB1 := Lib.hid ((HB.out _ _ _).trans (hb1.mono (HB.out _ _ _).size))
    have k2 := X2.out.below hb1 X2.out.lt
    obtain ⟨c2, z2⟩ := k2.cell
    have k3 := X3.out.below hb1 X3.out.lt
    obtain ⟨c3, z3⟩ := k3.cell
    have K3 := Lib.hid k3
    clear hb1 k3 k2 X3 X2
    go_wp2
    refine rPress_end (((((((K3.out.set_ 0 _).set_ 1 _).set_ 2 _).set_ 3 _).set_ 4 _).set_ 5 _).set_ 6 _) rfl rfl ⟨.slice none 0 0, rfl, ES.nil _, (fun k hk => by cases hk), ?_⟩
    exact below_seven HB1.out (by omega) _ _ _ _ _ _ _
  · go_enter Tryz.func16, Tryz.ntmps16
    go_wp2_with fail
    have hbx := three_boxes w #[.string text, .int .i64 a, .string killed, .bool killing, bv, .int .i64 place, .string begun] #[.int .i64 kind, .int .i64 byte] zeroL 37 42 37
    obtain ⟨x1, x2, x3⟩ := hbx
    have X3 := Lib.hid x3
    have X2 := Lib.hid x2
    clear x1 x2 x3
    refine (hP.out _ (HB.out _ _ _)).mono ?_
    rintro e w1 ⟨rfl, hb1⟩
    have HB1 := Lib.hid ((HB.out _ _ _).trans (hb1.mono (HB.out _ _ _).size))
    have k2 := X2.out.below hb1 X2.out.lt
    obtain ⟨c2, z2⟩ := k2.cell
    have k3 := X3.out.below hb1 X3.out.lt
    obtain ⟨c3, z3⟩ := k3.cell
    have K3 := Lib.hid k3
    clear hb1 k3 k2 X3 X2
    go_wp2
    refine rPress_end (((((((K3.out.set_ 0 _).set_ 1 _).set_ 2 _).set_ 3 _).set_ 4 _).set_ 5 _).set_ 6 _) rfl rfl ⟨.slice none 0 0, rfl, ES.nil _, (fun k hk => by cases hk), ?_⟩
    exact below_seven HB1.out (by omega) _ _ _ _ _ _ _
  · have g1 : ¬ kind < 1 := by omega
    have g2 : ¬ 22 < kind := by omega
    have qh31 : (kind == 1) = false := by rw [beq_eq_false_iff_ne]; exact h3
    have rh31 : (kind != 1) = true := by rw [bne_iff_ne]; exact h3
    have qh422 : (kind == 22) = false := by rw [beq_eq_false_iff_ne]; exact h4
    have rh422 : (kind != 22) = true := by rw [bne_iff_ne]; exact h4
    have qh50 : (byte == 0) = false := by rw [beq_eq_false_iff_ne]; exact h5
    have rh50 : (byte != 0) = true := by rw [bne_iff_ne]; exact h5
    clear h3 h4 h5
    go_enter Tryz.func16, Tryz.ntmps16
    go_wp2_with fail
    have hbx := three_boxes w #[.string text, .int .i64 a, .string killed, .bool killing, bv, .int .i64 place, .string begun] #[.int .i64 kind, .int .i64 byte] zeroL 37 42 37
    obtain ⟨x1, x2, x3⟩ := hbx
    have X3 := Lib.hid x3
    have X2 := Lib.hid x2
    clear x1 x2 x3
    refine (hP.out _ (HB.out _ _ _)).mono ?_
    rintro e w1 ⟨rfl, hb1⟩
    have HB1 := Lib.hid ((HB.out _ _ _).trans (hb1.mono (HB.out _ _ _).size))
    have k2 := X2.out.below hb1 X2.out.lt
    obtain ⟨c2, z2⟩ := k2.cell
    have k3 := X3.out.below hb1 X3.out.lt
    obtain ⟨c3, z3⟩ := k3.cell
    have K3 := Lib.hid k3
    clear hb1 k3 k2 X3 X2
    go_wp2
    refine rPress_end (((((((K3.out.set_ 0 _).set_ 1 _).set_ 2 _).set_ 3 _).set_ 4 _).set_ 5 _).set_ 6 _) rfl rfl ⟨.slice none 0 0, rfl, ES.nil _, (fun k hk => by cases hk), ?_⟩
    exact below_seven HB1.out (by omega) _ _ _ _ _ _ _
  · go_enter Tryz.func16, Tryz.ntmps16
    go_wp2_with fail
    have hbx := three_boxes w #[.string text, .int .i64 a, .string killed, .bool killing, bv, .int .i64 place, .string begun] #[.int .i64 1, .int .i64 byte] zeroL 37 42 37
    obtain ⟨x1, x2, x3⟩ := hbx
    have X3 := Lib.hid x3
    have X2 := Lib.hid x2
    clear x1 x2 x3
    refine (hP.out _ (HB.out _ _ _)).mono ?_
    rintro e w1 ⟨rfl, hb1⟩
    have HB1 := Lib.hid ((HB.out _ _ _).trans (hb1.mono (HB.out _ _ _).size))
    have k2 := X2.out.below hb1 X2.out.lt
    obtain ⟨c2, z2⟩ := k2.cell
    have k3 := X3.out.below hb1 X3.out.lt
    obtain ⟨c3, z3⟩ := k3.cell
    have K3 := Lib.hid k3
    clear hb1 k3 k2 X3 X2
    go_wp2
    refine rPress_end (((((((K3.out.set_ 0 _).set_ 1 _).set_ 2 _).set_ 3 _).set_ 4 _).set_ 5 _).set_ 6 _) rfl rfl ⟨.slice none 0 0, rfl, ES.nil _, (fun k hk => by cases hk), ?_⟩
    exact below_seven HB1.out (by omega) _ _ _ _ _ _ _
  · subst h2
    go_enter Tryz.func16, Tryz.ntmps16
    go_wp2_with fail
    have hbx := three_boxes w #[.string text, .int .i64 a, .string killed, .bool killing, bv, .int .i64 place, .string begun] #[.int .i64 1, .int .i64 127] zeroL 37 42 37
    obtain ⟨x1, x2, x3⟩ := hbx
    have X3 := Lib.hid x3
    have X2 := Lib.hid x2
    clear x1 x2 x3
    refine (hP.out _ (HB.out _ _ _)).mono ?_
    rintro e w1 ⟨rfl, hb1⟩
    have HB1 := Lib.hid ((HB.out _ _ _).trans (hb1.mono (HB.out _ _ _).size))
    have k2 := X2.out.below hb1 X2.out.lt
    obtain ⟨c2, z2⟩ := k2.cell
    have k3 := X3.out.below hb1 X3.out.lt
    obtain ⟨c3, z3⟩ := k3.cell
    have K3 := Lib.hid k3
    clear hb1 k3 k2 X3 X2
    go_wp2
    refine rPress_end (((((((K3.out.set_ 0 _).set_ 1 _).set_ 2 _).set_ 3 _).set_ 4 _).set_ 5 _).set_ 6 _) rfl rfl ⟨.slice none 0 0, rfl, ES.nil _, (fun k hk => by cases hk), ?_⟩
    exact below_seven HB1.out (by omega) _ _ _ _ _ _ _
  · have qh2127 : (byte == 127) = false := by rw [beq_eq_false_iff_ne]; exact h2
    have rh2127 : (byte != 127) = true := by rw [bne_iff_ne]; exact h2
    clear h2
    go_enter Tryz.func16, Tryz.ntmps16
    go_wp2_with fail
    have hbx := three_boxes w #[.string text, .int .i64 a, .string killed, .bool killing, bv, .int .i64 place, .string begun] #[.int .i64 1, .int .i64 byte] zeroL 37 42 37
    obtain ⟨x1, x2, x3⟩ := hbx
    have X3 := Lib.hid x3
    have X2 := Lib.hid x2
    clear x1 x2 x3
    refine (hP.out _ (HB.out _ _ _)).mono ?_
    rintro e w1 ⟨rfl, hb1⟩
    have HB1 := Lib.hid ((HB.out _ _ _).trans (hb1.mono (HB.out _ _ _).size))
    have k2 := X2.out.below hb1 X2.out.lt
    obtain ⟨c2, z2⟩ := k2.cell
    have k3 := X3.out.below hb1 X3.out.lt
    obtain ⟨c3, z3⟩ := k3.cell
    have K3 := Lib.hid k3
    clear hb1 k3 k2 X3 X2
    go_wp2
    refine rPress_end (((((((K3.out.set_ 0 _).set_ 1 _).set_ 2 _).set_ 3 _).set_ 4 _).set_ 5 _).set_ 6 _) rfl rfl ⟨.slice none 0 0, rfl, ES.nil _, (fun k hk => by cases hk), ?_⟩
    exact below_seven HB1.out (by omega) _ _ _ _ _ _ _
  · go_enter Tryz.func16, Tryz.ntmps16
    go_wp2_with fail
    have hbx := three_boxes w #[.string text, .int .i64 a, .string killed, .bool killing, bv, .int .i64 place, .string begun] #[.int .i64 22, .int .i64 byte] zeroL 37 42 37
    obtain ⟨x1, x2, x3⟩ := hbx
    have X3 := Lib.hid x3
    have X2 := Lib.hid x2
    clear x1 x2 x3
    refine (hP.out _ (HB.out _ _ _)).mono ?_
    rintro e w1 ⟨rfl, hb1⟩
    have HB1 := Lib.hid ((HB.out _ _ _).trans (hb1.mono (HB.out _ _ _).size))
    have k2 := X2.out.below hb1 X2.out.lt
    obtain ⟨c2, z2⟩ := k2.cell
    have k3 := X3.out.below hb1 X3.out.lt
    obtain ⟨c3, z3⟩ := k3.cell
    have K3 := Lib.hid k3
    clear hb1 k3 k2 X3 X2
    go_wp2
    refine rPress_end (((((((K3.out.set_ 0 _).set_ 1 _).set_ 2 _).set_ 3 _).set_ 4 _).set_ 5 _).set_ 6 _) rfl rfl ⟨.slice none 0 0, rfl, ES.nil _, (fun k hk => by cases hk), ?_⟩
    exact below_seven HB1.out (by omega) _ _ _ _ _ _ _
  · go_enter Tryz.func16, Tryz.ntmps16
    go_wp2_with fail
    have hbx := three_boxes w #[.string text, .int .i64 a, .string killed, .bool killing, bv, .int .i64 place, .string begun] #[.int .i64 22, .int .i64 byte] zeroL 37 42 37
    obtain ⟨x1, x2, x3⟩ := hbx
    have X3 := Lib.hid x3
    have X2 := Lib.hid x2
    clear x1 x2 x3
    refine (hP.out _ (HB.out _ _ _)).mono ?_
    rintro e w1 ⟨rfl, hb1⟩
    have HB1 := Lib.hid ((HB.out _ _ _).trans (hb1.mono (HB.out _ _ _).size))
    have k2 := X2.out.below hb1 X2.out.lt
    obtain ⟨c2, z2⟩ := k2.cell
    have k3 := X3.out.below hb1 X3.out.lt
    obtain ⟨c3, z3⟩ := k3.cell
    have K3 := Lib.hid k3
    clear hb1 k3 k2 X3 X2
    go_wp2
    refine rPress_end (((((((K3.out.set_ 0 _).set_ 1 _).set_ 2 _).set_ 3 _).set_ 4 _).set_ 5 _).set_ 6 _) rfl rfl ⟨.slice none 0 0, rfl, ES.nil _, (fun k hk => by cases hk), ?_⟩
    exact below_seven HB1.out (by omega) _ _ _ _ _ _ _
  · subst h3
    go_enter Tryz.func16, Tryz.ntmps16
    go_wp2_with fail
    have hbx := three_boxes w #[.string text, .int .i64 a, .string killed, .bool killing, bv, .int .i64 place, .string begun] #[.int .i64 22, .int .i64 10] zeroL 37 42 37
    obtain ⟨x1, x2, x3⟩ := hbx
    have X3 := Lib.hid x3
    have X2 := Lib.hid x2
    clear x1 x2 x3
    refine (hP.out _ (HB.out _ _ _)).mono ?_
    rintro e w1 ⟨rfl, hb1⟩
    have HB1 := Lib.hid ((HB.out _ _ _).trans (hb1.mono (HB.out _ _ _).size))
    have k2 := X2.out.below hb1 X2.out.lt
    obtain ⟨c2, z2⟩ := k2.cell
    have k3 := X3.out.below hb1 X3.out.lt
    obtain ⟨c3, z3⟩ := k3.cell
    have K3 := Lib.hid k3
    clear hb1 k3 k2 X3 X2
    go_wp2
    refine rPress_end (((((((K3.out.set_ 0 _).set_ 1 _).set_ 2 _).set_ 3 _).set_ 4 _).set_ 5 _).set_ 6 _) rfl rfl ⟨.slice none 0 0, rfl, ES.nil _, (fun k hk => by cases hk), ?_⟩
    exact below_seven HB1.out (by omega) _ _ _ _ _ _ _

set_option maxRecDepth 100000 in
set_option maxHeartbeats 3200000 in
theorem rPress_undo0 (l : EL) (bv hv : Value) (h : List ByteArray) (kind byte : Int) (w : World) (hb0 : ES w bv l.before) (hh : SL w hv h) (hf : Fit l) (hn : h.length ≤ 9223372036854775807) (hs : ∀ s ∈ h, s.size ≤ maxLen) (h0 : pressedE l h h.length = 0) (h1 : keyE kind byte = 0) (hk : kind = 19) (hby : byte = 0) (he : l.before = []) :
    Calls Tryz.prog 16 #[elV2 l bv, hv, .agg #[.int .i64 kind, .int .i64 byte]] w (PressPost w (pressL l h kind byte)) := by
  subst hk
  subst hby
  have hP := Lib.hid (fun W (hb : Below w.heap.size w W) => editForm_any l bv hv h W (hb0.keep hb) (hh.keep hb) hf hn hs)
  have hG := Lib.hid (good_of h0)
  rw [h0] at hP
  rw [pressL_ok h0 h1]
  have HH := Lib.hid hh
  have HC := Lib.hid (fun W (hb : Below w.heap.size w W) => cloneStates_any l.before bv W (hb0.keep hb) hf.2.2.2.1)
  have HHS := Lib.hid hs
  have HKE := Lib.hid h1
  obtain ⟨A, c, rfl, hc, hcells⟩ := hh
  have HB := Lib.hid (fun o1 o2 o3 => (((Below.refl _ w).alloc (Nat.le_refl _) o1).alloc (by simp) o2).alloc (by simp; omega) o3)
  clear h0 h1 hcells hf hs hb0
  obtain ⟨text, a, killed, killing, before, place, begun⟩ := l
  obtain ⟨a, rfl⟩ : ∃ n : Nat, a = (n : Int) := ⟨a.toNat, hG.out.at_⟩
  rw [show (⟨text, (a : Int), killed, killing, before, place, begun⟩ : EL).at'.toNat = a from Int.toNat_natCast a] at hG
  dsimp only at he
  subst he
  have HN := Lib.hid (show ([] : List (ByteArray × Int)).length = 0 from rfl)
  go_enter Tryz.func16, Tryz.ntmps16
  go_wp2_with fail
  have hbx := three_boxes w #[.string text, .int .i64 a, .string killed, .bool killing, bv, .int .i64 place, .string begun] #[.int .i64 19, .int .i64 0] zeroL 37 42 37
  obtain ⟨x1, x2, x3⟩ := hbx
  have X3 := Lib.hid x3
  have X2 := Lib.hid x2
  have X1 := Lib.hid x1
  clear x1 x2 x3
  refine (hP.out _ (HB.out _ _ _)).mono ?_
  rintro e w1 ⟨rfl, hb1⟩
  have HB1 := Lib.hid ((HB.out _ _ _).trans (hb1.mono (HB.out _ _ _).size))
  have K31 := Lib.hid (X3.out.below hb1 X3.out.lt)
  have K21 := Lib.hid (X2.out.below hb1 X2.out.lt)
  have K11 := Lib.hid (X1.out.below hb1 X1.out.lt)
  obtain ⟨c2, z2⟩ := K21.out.cell
  obtain ⟨c1, z1⟩ := K11.out.cell
  have HZ1 := Lib.hid (show w.heap.size + 1 + 1 < w1.heap.size from K31.out.lt)
  clear hb1 X3 X2 X1 HB
  go_wp2_with fail
  refine (HC.out _ HB1.out).mono ?_
  rintro e w2 ⟨v2, rfl, ho2, hb2⟩
  rw [HN.out] at ho2
  obtain ⟨p2, q2, rfl⟩ := own_slice ho2
  have HO2 := Lib.hid ho2
  have HB2 := Lib.hid (HB1.out.trans (hb2.mono HB1.out.size))
  have K32 := Lib.hid (K31.out.below hb2 K31.out.lt)
  have K22 := Lib.hid (K21.out.below hb2 K21.out.lt)
  have K12 := Lib.hid (K11.out.below hb2 K11.out.lt)
  have HZ2 := Lib.hid hb2.size
  clear ho2 hb2 c2 z2 c1 z1 K31 K21 K11 HC hP
  obtain ⟨c1, z1⟩ := K12.out.cell
  obtain ⟨c2, z2⟩ := K22.out.cell
  have l1 : w.heap.size + 1 + 1 < w2.heap.size := K32.out.lt
  go_upto_region 16 with fail
  have hT : RTurned w2 w.heap.size (rlC ⟨text, a, killed, false⟩ (.slice p2 0 q2) place begun) (((w2.setCell ⟨w.heap.size, 4, none⟩ (.slice p2 0 q2)).setCell ⟨w.heap.size, 3, none⟩ (.bool false)).alloc (.cells #[.string text, .int .i64 a, .string killed, .bool false, .slice p2 0 q2, .int .i64 place, .string begun] 37)) := (((RTurned.refl K12.out).set 4 _).set 3 _).alloc _
  have hD : Blk (((w2.setCell ⟨w.heap.size, 4, none⟩ (.slice p2 0 q2)).setCell ⟨w.heap.size, 3, none⟩ (.bool false)).alloc (.cells #[.string text, .int .i64 a, .string killed, .bool false, .slice p2 0 q2, .int .i64 place, .string begun] 37)) w2.heap.size 37 #[.string text, .int .i64 a, .string killed, .bool false, .slice p2 0 q2, .int .i64 place, .string begun] := by
    exact blk_new_at (by simp [World.setCell]) _ _
  generalize ((w2.setCell ⟨w.heap.size, 4, none⟩ (.slice p2 0 q2)).setCell ⟨w.heap.size, 3, none⟩ (.bool false)).alloc (.cells #[.string text, .int .i64 a, .string killed, .bool false, .slice p2 0 q2, .int .i64 place, .string begun] 37) = w3 at *
  have HD3 := Lib.hid hD
  have K13 := Lib.hid hT.2
  have K23 := Lib.hid (K22.out.rturned hT (by omega))
  have K33 := Lib.hid (K32.out.rturned hT (by omega))
  have HO3 := Lib.hid (own_rturned HO2.out hT (by have := HZ1.out; omega))
  have HB3 := Lib.hid (HB2.out.trans (hT.below (Nat.le_refl _) HB2.out.size))
  have HZ3 := Lib.hid hT.1.size
  clear hT hD c1 z1 c2 z2 K12 K22 K32 HO2
  obtain ⟨c1, z1⟩ := K13.out.cell
  obtain ⟨c2, z2⟩ := K23.out.cell
  obtain ⟨c3, z3⟩ := K33.out.cell
  go_wp2
  refine rPress_end ((((((((K33.out).set_ 0 _).set_ 1 _).set_ 2 _).set_ 3 _).set_ 4 _).set_ 5 _).set_ 6 _) rfl rfl ⟨.slice p2 0 q2, rfl, ?_, ?_, ?_⟩
  · exact (ES.of_own (l := []) HO3.out).seven (fun k hk => by have := (HO3.out.lt k hk).1; have := HZ1.out; omega) _ _ _ _ _ _ _
  · exact fun k hk => by have := (HO3.out.lt k hk).1; have := HZ1.out; omega
  · exact below_seven HB3.out (by omega) _ _ _ _ _ _ _

set_option maxRecDepth 100000 in
set_option maxHeartbeats 3200000 in
theorem rPress_undo1 (l : EL) (bv hv : Value) (h : List ByteArray) (kind byte : Int) (w : World) (hb0 : ES w bv l.before) (hh : SL w hv h) (hf : Fit l) (hn : h.length ≤ 9223372036854775807) (hs : ∀ s ∈ h, s.size ≤ maxLen) (h0 : pressedE l h h.length = 0) (h1 : keyE kind byte = 0) (hk : kind = 19) (hby : byte = 0) (pre : List (ByteArray × Int)) (s : ByteArray) (k m : Nat) (he : l.before = pre ++ [(s, (k : Int))]) (hm : pre.length = m) :
    Calls Tryz.prog 16 #[elV2 l bv, hv, .agg #[.int .i64 kind, .int .i64 byte]] w (PressPost w (pressL l h kind byte)) := by
  subst hk
  subst hby
  have hP := Lib.hid (fun W (hb : Below w.heap.size w W) => editForm_any l bv hv h W (hb0.keep hb) (hh.keep hb) hf hn hs)
  have hG := Lib.hid (good_of h0)
  rw [h0] at hP
  rw [pressL_ok h0 h1]
  have HH := Lib.hid hh
  have HC := Lib.hid (fun W (hb : Below w.heap.size w W) => cloneStates_any l.before bv W (hb0.keep hb) hf.2.2.2.1)
  have HHS := Lib.hid hs
  have HKE := Lib.hid h1
  obtain ⟨A, c, rfl, hc, hcells⟩ := hh
  have HB := Lib.hid (fun o1 o2 o3 => (((Below.refl _ w).alloc (Nat.le_refl _) o1).alloc (by simp) o2).alloc (by simp; omega) o3)
  clear h0 h1 hcells hf hs hb0
  obtain ⟨text, a, killed, killing, before, place, begun⟩ := l
  obtain ⟨a, rfl⟩ : ∃ n : Nat, a = (n : Int) := ⟨a.toNat, hG.out.at_⟩
  rw [show (⟨text, (a : Int), killed, killing, before, place, begun⟩ : EL).at'.toNat = a from Int.toNat_natCast a] at hG
  dsimp only at he
  subst he
  have HN := Lib.hid (show (pre ++ [(s, (k : Int))]).length = m + 1 by rw [List.length_append, hm]; rfl)
  have HM := Lib.hid hm
  have hml : m ≤ 100 := by have := hG.out.len; dsimp only at this; rw [List.length_append, hm] at this; simp at this; omega
  have HF := Lib.hid (show keyL ⟨text, (a : Int), killed, killing, pre ++ [(s, (k : Int))], place, begun⟩ h 19 0 = ⟨s, (k : Int), killed, false, pre, place, begun⟩ by
    unfold keyL; rw [if_pos rfl]; unfold undoL; simp)
  rw [HF.out]
  clear hm HF
  go_enter Tryz.func16, Tryz.ntmps16
  go_wp2_with fail
  have hbx := three_boxes w #[.string text, .int .i64 a, .string killed, .bool killing, bv, .int .i64 place, .string begun] #[.int .i64 19, .int .i64 0] zeroL 37 42 37
  obtain ⟨x1, x2, x3⟩ := hbx
  have X3 := Lib.hid x3
  have X2 := Lib.hid x2
  have X1 := Lib.hid x1
  clear x1 x2 x3
  refine (hP.out _ (HB.out _ _ _)).mono ?_
  rintro e w1 ⟨rfl, hb1⟩
  have HB1 := Lib.hid ((HB.out _ _ _).trans (hb1.mono (HB.out _ _ _).size))
  have K31 := Lib.hid (X3.out.below hb1 X3.out.lt)
  have K21 := Lib.hid (X2.out.below hb1 X2.out.lt)
  have K11 := Lib.hid (X1.out.below hb1 X1.out.lt)
  obtain ⟨c2, z2⟩ := K21.out.cell
  obtain ⟨c1, z1⟩ := K11.out.cell
  have HZ1 := Lib.hid (show w.heap.size + 1 + 1 < w1.heap.size from K31.out.lt)
  clear hb1 X3 X2 X1 HB
  go_wp2_with fail
  refine (HC.out _ HB1.out).mono ?_
  rintro e w2 ⟨v2, rfl, ho2, hb2⟩
  rw [HN.out] at ho2
  obtain ⟨p2, q2, rfl⟩ := own_slice ho2
  have HO2 := Lib.hid ho2
  have HB2 := Lib.hid (HB1.out.trans (hb2.mono HB1.out.size))
  have K32 := Lib.hid (K31.out.below hb2 K31.out.lt)
  have K22 := Lib.hid (K21.out.below hb2 K21.out.lt)
  have K12 := Lib.hid (K11.out.below hb2 K11.out.lt)
  have HZ2 := Lib.hid hb2.size
  clear ho2 hb2 c2 z2 c1 z1 K31 K21 K11 HC hP
  obtain ⟨c1, z1⟩ := K12.out.cell
  obtain ⟨c2, z2⟩ := K22.out.cell
  have l1 : w.heap.size + 1 + 1 < w2.heap.size := K32.out.lt
  go_upto_region 16 with fail
  have hT : RTurned w2 w.heap.size (rlC ⟨text, a, killed, false⟩ (.slice p2 (m + 1) q2) place begun) (((w2.setCell ⟨w.heap.size, 4, none⟩ (.slice p2 (m + 1) q2)).setCell ⟨w.heap.size, 3, none⟩ (.bool false)).alloc (.cells #[.string text, .int .i64 a, .string killed, .bool false, .slice p2 (m + 1) q2, .int .i64 place, .string begun] 37)) := (((RTurned.refl K12.out).set 4 _).set 3 _).alloc _
  have hD : Blk (((w2.setCell ⟨w.heap.size, 4, none⟩ (.slice p2 (m + 1) q2)).setCell ⟨w.heap.size, 3, none⟩ (.bool false)).alloc (.cells #[.string text, .int .i64 a, .string killed, .bool false, .slice p2 (m + 1) q2, .int .i64 place, .string begun] 37)) w2.heap.size 37 #[.string text, .int .i64 a, .string killed, .bool false, .slice p2 (m + 1) q2, .int .i64 place, .string begun] := by
    exact blk_new_at (by simp [World.setCell]) _ _
  generalize ((w2.setCell ⟨w.heap.size, 4, none⟩ (.slice p2 (m + 1) q2)).setCell ⟨w.heap.size, 3, none⟩ (.bool false)).alloc (.cells #[.string text, .int .i64 a, .string killed, .bool false, .slice p2 (m + 1) q2, .int .i64 place, .string begun] 37) = w3 at *
  have HD3 := Lib.hid hD
  have K13 := Lib.hid hT.2
  have K23 := Lib.hid (K22.out.rturned hT (by omega))
  have K33 := Lib.hid (K32.out.rturned hT (by omega))
  have HO3 := Lib.hid (own_rturned HO2.out hT (by have := HZ1.out; omega))
  have HB3 := Lib.hid (HB2.out.trans (hT.below (Nat.le_refl _) HB2.out.size))
  have HZ3 := Lib.hid hT.1.size
  clear hT hD c1 z1 c2 z2 K12 K22 K32 HO2
  obtain ⟨c1, z1⟩ := K13.out.cell
  obtain ⟨c2, z2⟩ := K23.out.cell
  obtain ⟨g, qq, hp2, hq2⟩ := own_slice1 HO3.out (by omega)
  obtain rfl : p2 = some ⟨g, 0, none⟩ := by injection hp2
  have hgc : w.heap.size + 1 + 1 < g := by have := (HO3.out.lt g rfl).1; have := HZ1.out; omega
  have hh1 : w3.cell? ⟨g, m * 2, none⟩ = some (.string s) := by
    have := HO3.out.cells (g := g) rfl (m * 2) (.string s) (by have := (esC_at (pre ++ [(s, (k : Int))]) m (by rw [HN.out]; omega)).1; rw [this]; simp [← HM.out])
    rwa [WideShapes.add_plain, Nat.zero_add] at this
  have hh2 : w3.cell? ⟨g, m * 2 + 1, none⟩ = some (.int .i64 k) := by
    have := HO3.out.cells (g := g) rfl (m * 2 + 1) (.int .i64 k) (by have := (esC_at (pre ++ [(s, (k : Int))]) m (by rw [HN.out]; omega)).2; rw [this]; simp [← HM.out])
    rwa [WideShapes.add_plain, Nat.zero_add] at this
  have hqc : m + 1 ≤ q2 := by injection hp2 with _ _ e; omega
  clear hp2 hq2
  have e1 : IntKind.i64.wrap ((m : Int) + 1 - 1) = (m : Int) := by rw [IntWalk.i64_in _ (by omega)]; omega
  go_wp2_with fail
  go_region
  have hT4 : RTurned w3 w.heap.size (rlC ⟨s, k, killed, false⟩ (.slice (some ⟨g, 0, none⟩) (m + 1) q2) place begun) ((w3.setCell ⟨w.heap.size, 0, none⟩ (.string s)).setCell ⟨w.heap.size, 1, none⟩ (.int .i64 k)).drew := (((RTurned.refl K13.out).set 0 _).set 1 _).drew
  generalize ((w3.setCell ⟨w.heap.size, 0, none⟩ (.string s)).setCell ⟨w.heap.size, 1, none⟩ (.int .i64 k)).drew = w4 at *
  have K14 := Lib.hid hT4.2
  have K34 := Lib.hid (K33.out.rturned hT4 (by omega))
  have HO4 := Lib.hid (own_rturned HO3.out hT4 (by have := HZ1.out; omega))
  have HB4 := Lib.hid (HB3.out.trans (hT4.below (Nat.le_refl _) HB3.out.size))
  clear hT4 c1 z1 c2 z2 hh1 hh2 HO3
  obtain ⟨c1, z1⟩ := K14.out.cell
  obtain ⟨c3, z3⟩ := K34.out.cell
  go_wp2
  have HES := Lib.hid (ES.prefix (n := m + 1) (ES.of_own HO4.out))
  rw [HM.out] at HES
  have hfar : ∀ j, (Value.slice (some ⟨g, 0, none⟩) m q2).ownBlock = some j → w.heap.size + 1 + 1 < j := fun j hj => by simp [Value.ownBlock] at hj; omega
  refine rPress_end ((((((((K34.out.far (p := ⟨w.heap.size, 4, none⟩) (by show w.heap.size + 1 + 1 ≠ w.heap.size; omega) _).set_ 0 _).set_ 1 _).set_ 2 _).set_ 3 _).set_ 4 _).set_ 5 _).set_ 6 _) rfl rfl ⟨.slice (some ⟨g, 0, none⟩) m q2, rfl, ?_, ?_, ?_⟩
  · exact ((HES.out.afar (fun j hj => by have := hfar j hj; omega) _ _).seven hfar _ _ _ _ _ _ _)
  · exact fun j hj => by have := hfar j hj; omega
  · exact below_seven (HB4.out.setCell (by simp) _) (by omega) _ _ _ _ _ _ _

set_option maxRecDepth 100000 in
set_option maxHeartbeats 3200000 in
theorem rPress_up (l : EL) (bv hv : Value) (h : List ByteArray) (kind byte : Int) (w : World) (hb0 : ES w bv l.before) (hh : SL w hv h) (hf : Fit l) (hn : h.length ≤ 9223372036854775807) (hs : ∀ s ∈ h, s.size ≤ maxLen) (h0 : pressedE l h h.length = 0) (h1 : keyE kind byte = 0) (hk : kind = 20) (hby : byte = 0) :
    Calls Tryz.prog 16 #[elV2 l bv, hv, .agg #[.int .i64 kind, .int .i64 byte]] w (PressPost w (pressL l h kind byte)) := by
  subst hk
  subst hby
  have hP := Lib.hid (fun W (hb : Below w.heap.size w W) => editForm_any l bv hv h W (hb0.keep hb) (hh.keep hb) hf hn hs)
  have hG := Lib.hid (good_of h0)
  rw [h0] at hP
  rw [pressL_ok h0 h1]
  have HH := Lib.hid hh
  have HC := Lib.hid (fun W (hb : Below w.heap.size w W) => cloneStates_any l.before bv W (hb0.keep hb) hf.2.2.2.1)
  have HHS := Lib.hid hs
  have HKE := Lib.hid h1
  obtain ⟨A, c, rfl, hc, hcells⟩ := hh
  have HB := Lib.hid (fun o1 o2 o3 => (((Below.refl _ w).alloc (Nat.le_refl _) o1).alloc (by simp) o2).alloc (by simp; omega) o3)
  clear h0 h1 hcells hf hs hb0
  obtain ⟨text, a, killed, killing, before, place, begun⟩ := l
  obtain ⟨a, rfl⟩ : ∃ n : Nat, a = (n : Int) := ⟨a.toNat, hG.out.at_⟩
  rw [show (⟨text, (a : Int), killed, killing, before, place, begun⟩ : EL).at'.toNat = a from Int.toNat_natCast a] at hG
  obtain ⟨n, hnn⟩ : ∃ n, before.length = n := ⟨_, rfl⟩
  have HN := Lib.hid hnn
  clear hnn
  have HF := Lib.hid (show keyL ⟨text, (a : Int), killed, killing, before, place, begun⟩ h 20 0 = placeL ⟨text, (a : Int), killed, false, before, place, begun⟩ h (place + 1) from rfl)
  rw [HF.out]
  clear HF
  go_enter Tryz.func16, Tryz.ntmps16
  go_wp2_with fail
  have hbx := three_boxes w #[.string text, .int .i64 a, .string killed, .bool killing, bv, .int .i64 place, .string begun] #[.int .i64 20, .int .i64 0] zeroL 37 42 37
  obtain ⟨x1, x2, x3⟩ := hbx
  have X3 := Lib.hid x3
  have X2 := Lib.hid x2
  have X1 := Lib.hid x1
  clear x1 x2 x3
  refine (hP.out _ (HB.out _ _ _)).mono ?_
  rintro e w1 ⟨rfl, hb1⟩
  have HB1 := Lib.hid ((HB.out _ _ _).trans (hb1.mono (HB.out _ _ _).size))
  have K31 := Lib.hid (X3.out.below hb1 X3.out.lt)
  have K21 := Lib.hid (X2.out.below hb1 X2.out.lt)
  have K11 := Lib.hid (X1.out.below hb1 X1.out.lt)
  obtain ⟨c2, z2⟩ := K21.out.cell
  obtain ⟨c1, z1⟩ := K11.out.cell
  have HZ1 := Lib.hid (show w.heap.size + 1 + 1 < w1.heap.size from K31.out.lt)
  clear hb1 X3 X2 X1 HB
  go_wp2_with fail
  refine (HC.out _ HB1.out).mono ?_
  rintro e w2 ⟨v2, rfl, ho2, hb2⟩
  rw [HN.out] at ho2
  obtain ⟨p2, q2, rfl⟩ := own_slice ho2
  have HO2 := Lib.hid ho2
  have HB2 := Lib.hid (HB1.out.trans (hb2.mono HB1.out.size))
  have K32 := Lib.hid (K31.out.below hb2 K31.out.lt)
  have K22 := Lib.hid (K21.out.below hb2 K21.out.lt)
  have K12 := Lib.hid (K11.out.below hb2 K11.out.lt)
  have HZ2 := Lib.hid hb2.size
  clear ho2 hb2 c2 z2 c1 z1 K31 K21 K11 HC hP
  obtain ⟨c1, z1⟩ := K12.out.cell
  obtain ⟨c2, z2⟩ := K22.out.cell
  have l1 : w.heap.size + 1 + 1 < w2.heap.size := K32.out.lt
  go_upto_region 16 with fail
  have hT : RTurned w2 w.heap.size (rlC ⟨text, a, killed, false⟩ (.slice p2 n q2) place begun) (((w2.setCell ⟨w.heap.size, 4, none⟩ (.slice p2 n q2)).setCell ⟨w.heap.size, 3, none⟩ (.bool false)).alloc (.cells #[.string text, .int .i64 a, .string killed, .bool false, .slice p2 n q2, .int .i64 place, .string begun] 37)) := (((RTurned.refl K12.out).set 4 _).set 3 _).alloc _
  have hD : Blk (((w2.setCell ⟨w.heap.size, 4, none⟩ (.slice p2 n q2)).setCell ⟨w.heap.size, 3, none⟩ (.bool false)).alloc (.cells #[.string text, .int .i64 a, .string killed, .bool false, .slice p2 n q2, .int .i64 place, .string begun] 37)) w2.heap.size 37 #[.string text, .int .i64 a, .string killed, .bool false, .slice p2 n q2, .int .i64 place, .string begun] := by
    exact blk_new_at (by simp [World.setCell]) _ _
  generalize ((w2.setCell ⟨w.heap.size, 4, none⟩ (.slice p2 n q2)).setCell ⟨w.heap.size, 3, none⟩ (.bool false)).alloc (.cells #[.string text, .int .i64 a, .string killed, .bool false, .slice p2 n q2, .int .i64 place, .string begun] 37) = w3 at *
  have HD3 := Lib.hid hD
  have K13 := Lib.hid hT.2
  have K23 := Lib.hid (K22.out.rturned hT (by omega))
  have K33 := Lib.hid (K32.out.rturned hT (by omega))
  have HO3 := Lib.hid (own_rturned HO2.out hT (by have := HZ1.out; omega))
  have HB3 := Lib.hid (HB2.out.trans (hT.below (Nat.le_refl _) HB2.out.size))
  have HZ3 := Lib.hid hT.1.size
  clear hT hD c1 z1 c2 z2 K12 K22 K32 HO2
  obtain ⟨c1, z1⟩ := K13.out.cell
  obtain ⟨c2, z2⟩ := K23.out.cell
  go_wp2_with fail
  refine (through_any ⟨text, (a : Int), killed, false, before, place, begun⟩ p2 n q2 (.slice A h.length c) h 20 (place + 1) w3 (HH.out.keep HB3.out) hG.out.hist hG.out.p0 (by have := hG.out.p1; have := hG.out.hist; dsimp only at *; omega) (.inl ⟨rfl, rfl⟩) (by have := hG.out.text; unfold maxLen; dsimp only at *; omega) (by have := hG.out.begun; unfold maxLen; dsimp only at *; omega) HHS.out).mono ?_
  rintro e w4 ⟨v4, rfl, hor, hb4⟩
  have HB4 := Lib.hid (HB3.out.trans (hb4.mono HB3.out.size))
  have K34 := Lib.hid (K33.out.below hb4 K33.out.lt)
  have HO4 := Lib.hid ((ES.of_own HO3.out).keep hb4)
  obtain ⟨c3, z3⟩ := K34.out.cell
  clear hb4 c1 z1 c2 z2
  generalize placeL ⟨text, (a : Int), killed, false, before, place, begun⟩ h (place + 1) = r at *
  dsimp only at hor
  rcases hor with ⟨rfl, hbe⟩ | ⟨rfl, hbe⟩
  · have HBE := Lib.hid hbe
    clear hbe
    go_wp2
    have hfar : ∀ j, (Value.slice p2 n q2).ownBlock = some j → w.heap.size + 1 + 1 < j := fun j hj => by have := (HO3.out.lt j hj).1; have := HZ1.out; omega
    refine rPress_end ((((((((K34.out).set_ 0 _).set_ 1 _).set_ 2 _).set_ 3 _).set_ 4 _).set_ 5 _).set_ 6 _) rfl rfl ⟨.slice p2 n q2, rfl, ?_, ?_, ?_⟩
    · show ES _ _ r.before
      rw [HBE.out]
      exact HO4.out.seven hfar _ _ _ _ _ _ _
    · exact fun j hj => by have := hfar j hj; omega
    · exact below_seven HB4.out (by omega) _ _ _ _ _ _ _
  · have HBE := Lib.hid hbe
    clear hbe
    go_wp2
    refine rPress_end ((((((((K34.out).set_ 0 _).set_ 1 _).set_ 2 _).set_ 3 _).set_ 4 _).set_ 5 _).set_ 6 _) rfl rfl ⟨.slice none 0 0, rfl, ?_, ?_, ?_⟩
    · show ES _ _ r.before
      rw [HBE.out]
      exact ES.nil _
    · exact fun j hj => by cases hj
    · exact below_seven HB4.out (by omega) _ _ _ _ _ _ _

set_option maxRecDepth 100000 in
set_option maxHeartbeats 3200000 in
theorem rPress_down (l : EL) (bv hv : Value) (h : List ByteArray) (kind byte : Int) (w : World) (hb0 : ES w bv l.before) (hh : SL w hv h) (hf : Fit l) (hn : h.length ≤ 9223372036854775807) (hs : ∀ s ∈ h, s.size ≤ maxLen) (h0 : pressedE l h h.length = 0) (h1 : keyE kind byte = 0) (hk : kind = 21) (hby : byte = 0) :
    Calls Tryz.prog 16 #[elV2 l bv, hv, .agg #[.int .i64 kind, .int .i64 byte]] w (PressPost w (pressL l h kind byte)) := by
  subst hk
  subst hby
  have hP := Lib.hid (fun W (hb : Below w.heap.size w W) => editForm_any l bv hv h W (hb0.keep hb) (hh.keep hb) hf hn hs)
  have hG := Lib.hid (good_of h0)
  rw [h0] at hP
  rw [pressL_ok h0 h1]
  have HH := Lib.hid hh
  have HC := Lib.hid (fun W (hb : Below w.heap.size w W) => cloneStates_any l.before bv W (hb0.keep hb) hf.2.2.2.1)
  have HHS := Lib.hid hs
  have HKE := Lib.hid h1
  obtain ⟨A, c, rfl, hc, hcells⟩ := hh
  have HB := Lib.hid (fun o1 o2 o3 => (((Below.refl _ w).alloc (Nat.le_refl _) o1).alloc (by simp) o2).alloc (by simp; omega) o3)
  clear h0 h1 hcells hf hs hb0
  obtain ⟨text, a, killed, killing, before, place, begun⟩ := l
  obtain ⟨a, rfl⟩ : ∃ n : Nat, a = (n : Int) := ⟨a.toNat, hG.out.at_⟩
  rw [show (⟨text, (a : Int), killed, killing, before, place, begun⟩ : EL).at'.toNat = a from Int.toNat_natCast a] at hG
  obtain ⟨n, hnn⟩ : ∃ n, before.length = n := ⟨_, rfl⟩
  have HN := Lib.hid hnn
  clear hnn
  have HF := Lib.hid (show keyL ⟨text, (a : Int), killed, killing, before, place, begun⟩ h 21 0 = placeL ⟨text, (a : Int), killed, false, before, place, begun⟩ h (place - 1) from rfl)
  rw [HF.out]
  clear HF
  go_enter Tryz.func16, Tryz.ntmps16
  go_wp2_with fail
  have hbx := three_boxes w #[.string text, .int .i64 a, .string killed, .bool killing, bv, .int .i64 place, .string begun] #[.int .i64 21, .int .i64 0] zeroL 37 42 37
  obtain ⟨x1, x2, x3⟩ := hbx
  have X3 := Lib.hid x3
  have X2 := Lib.hid x2
  have X1 := Lib.hid x1
  clear x1 x2 x3
  refine (hP.out _ (HB.out _ _ _)).mono ?_
  rintro e w1 ⟨rfl, hb1⟩
  have HB1 := Lib.hid ((HB.out _ _ _).trans (hb1.mono (HB.out _ _ _).size))
  have K31 := Lib.hid (X3.out.below hb1 X3.out.lt)
  have K21 := Lib.hid (X2.out.below hb1 X2.out.lt)
  have K11 := Lib.hid (X1.out.below hb1 X1.out.lt)
  obtain ⟨c2, z2⟩ := K21.out.cell
  obtain ⟨c1, z1⟩ := K11.out.cell
  have HZ1 := Lib.hid (show w.heap.size + 1 + 1 < w1.heap.size from K31.out.lt)
  clear hb1 X3 X2 X1 HB
  go_wp2_with fail
  refine (HC.out _ HB1.out).mono ?_
  rintro e w2 ⟨v2, rfl, ho2, hb2⟩
  rw [HN.out] at ho2
  obtain ⟨p2, q2, rfl⟩ := own_slice ho2
  have HO2 := Lib.hid ho2
  have HB2 := Lib.hid (HB1.out.trans (hb2.mono HB1.out.size))
  have K32 := Lib.hid (K31.out.below hb2 K31.out.lt)
  have K22 := Lib.hid (K21.out.below hb2 K21.out.lt)
  have K12 := Lib.hid (K11.out.below hb2 K11.out.lt)
  have HZ2 := Lib.hid hb2.size
  clear ho2 hb2 c2 z2 c1 z1 K31 K21 K11 HC hP
  obtain ⟨c1, z1⟩ := K12.out.cell
  obtain ⟨c2, z2⟩ := K22.out.cell
  have l1 : w.heap.size + 1 + 1 < w2.heap.size := K32.out.lt
  go_upto_region 16 with fail
  have hT : RTurned w2 w.heap.size (rlC ⟨text, a, killed, false⟩ (.slice p2 n q2) place begun) (((w2.setCell ⟨w.heap.size, 4, none⟩ (.slice p2 n q2)).setCell ⟨w.heap.size, 3, none⟩ (.bool false)).alloc (.cells #[.string text, .int .i64 a, .string killed, .bool false, .slice p2 n q2, .int .i64 place, .string begun] 37)) := (((RTurned.refl K12.out).set 4 _).set 3 _).alloc _
  have hD : Blk (((w2.setCell ⟨w.heap.size, 4, none⟩ (.slice p2 n q2)).setCell ⟨w.heap.size, 3, none⟩ (.bool false)).alloc (.cells #[.string text, .int .i64 a, .string killed, .bool false, .slice p2 n q2, .int .i64 place, .string begun] 37)) w2.heap.size 37 #[.string text, .int .i64 a, .string killed, .bool false, .slice p2 n q2, .int .i64 place, .string begun] := by
    exact blk_new_at (by simp [World.setCell]) _ _
  generalize ((w2.setCell ⟨w.heap.size, 4, none⟩ (.slice p2 n q2)).setCell ⟨w.heap.size, 3, none⟩ (.bool false)).alloc (.cells #[.string text, .int .i64 a, .string killed, .bool false, .slice p2 n q2, .int .i64 place, .string begun] 37) = w3 at *
  have HD3 := Lib.hid hD
  have K13 := Lib.hid hT.2
  have K23 := Lib.hid (K22.out.rturned hT (by omega))
  have K33 := Lib.hid (K32.out.rturned hT (by omega))
  have HO3 := Lib.hid (own_rturned HO2.out hT (by have := HZ1.out; omega))
  have HB3 := Lib.hid (HB2.out.trans (hT.below (Nat.le_refl _) HB2.out.size))
  have HZ3 := Lib.hid hT.1.size
  clear hT hD c1 z1 c2 z2 K12 K22 K32 HO2
  obtain ⟨c1, z1⟩ := K13.out.cell
  obtain ⟨c2, z2⟩ := K23.out.cell
  go_wp2_with fail
  refine (through_any ⟨text, (a : Int), killed, false, before, place, begun⟩ p2 n q2 (.slice A h.length c) h 21 (place - 1) w3 (HH.out.keep HB3.out) hG.out.hist hG.out.p0 (by have := hG.out.p1; have := hG.out.hist; dsimp only at *; omega) (.inr ⟨rfl, rfl⟩) (by have := hG.out.text; unfold maxLen; dsimp only at *; omega) (by have := hG.out.begun; unfold maxLen; dsimp only at *; omega) HHS.out).mono ?_
  rintro e w4 ⟨v4, rfl, hor, hb4⟩
  have HB4 := Lib.hid (HB3.out.trans (hb4.mono HB3.out.size))
  have K34 := Lib.hid (K33.out.below hb4 K33.out.lt)
  have HO4 := Lib.hid ((ES.of_own HO3.out).keep hb4)
  obtain ⟨c3, z3⟩ := K34.out.cell
  clear hb4 c1 z1 c2 z2
  generalize placeL ⟨text, (a : Int), killed, false, before, place, begun⟩ h (place - 1) = r at *
  dsimp only at hor
  rcases hor with ⟨rfl, hbe⟩ | ⟨rfl, hbe⟩
  · have HBE := Lib.hid hbe
    clear hbe
    go_wp2
    have hfar : ∀ j, (Value.slice p2 n q2).ownBlock = some j → w.heap.size + 1 + 1 < j := fun j hj => by have := (HO3.out.lt j hj).1; have := HZ1.out; omega
    refine rPress_end ((((((((K34.out).set_ 0 _).set_ 1 _).set_ 2 _).set_ 3 _).set_ 4 _).set_ 5 _).set_ 6 _) rfl rfl ⟨.slice p2 n q2, rfl, ?_, ?_, ?_⟩
    · show ES _ _ r.before
      rw [HBE.out]
      exact HO4.out.seven hfar _ _ _ _ _ _ _
    · exact fun j hj => by have := hfar j hj; omega
    · exact below_seven HB4.out (by omega) _ _ _ _ _ _ _
  · have HBE := Lib.hid hbe
    clear hbe
    go_wp2
    refine rPress_end ((((((((K34.out).set_ 0 _).set_ 1 _).set_ 2 _).set_ 3 _).set_ 4 _).set_ 5 _).set_ 6 _) rfl rfl ⟨.slice none 0 0, rfl, ?_, ?_, ?_⟩
    · show ES _ _ r.before
      rw [HBE.out]
      exact ES.nil _
    · exact fun j hj => by cases hj
    · exact below_seven HB4.out (by omega) _ _ _ _ _ _ _

end Go.Proofs.YtokmiommhfbkeaaGreatDoor
