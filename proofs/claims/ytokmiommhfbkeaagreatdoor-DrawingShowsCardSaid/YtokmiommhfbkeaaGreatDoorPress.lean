/- The program's Press gives the line that pressL tells. -/
import Derived.Test.YtokmiommhfbkeaaGreatDoorEditS
import Derived.Test.YtokmiommhfbkeaaGreatDoorEditG
namespace Go.Proofs.YtokmiommhfbkeaaGreatDoor
open Go.RowKit

def PressPost (w : World) (r : EL × Int) (e : Ending) (w' : World) : Prop :=
  ∃ bv, e = .returned (.tuple #[elV2 r.1 bv, .int .i64 r.2]) ∧ ES w' bv r.1.before ∧ (∀ k, bv.ownBlock = some k → w.heap.size ≤ k) ∧ Below w.heap.size w w'
theorem pressL_err1 {l : EL} {h : List ByteArray} {kind byte : Int} (h1 : ¬ pressedE l h h.length = 0) : pressL l h kind byte = (emptyL, pressedE l h h.length) := by unfold pressL; rw [if_pos h1]
theorem pressL_err2 {l : EL} {h : List ByteArray} {kind byte : Int} (h1 : pressedE l h h.length = 0) (h2 : ¬ keyE kind byte = 0) : pressL l h kind byte = (emptyL, keyE kind byte) := by unfold pressL; rw [if_neg (by simp [h1]), if_pos h2]
theorem pressL_ok {l : EL} {h : List ByteArray} {kind byte : Int} (h1 : pressedE l h h.length = 0) (h2 : keyE kind byte = 0) : pressL l h kind byte = (keyL l h kind byte, 0) := by unfold pressL; rw [if_neg (by simp [h1]), if_neg (by simp [h2])]

def Blk (w : World) (g : Nat) (t : TypeId) (cs : Array Value) : Prop := w.heap[g]? = some (.cells cs t (0, 0))
theorem Blk.cell {w : World} {g : Nat} {t : TypeId} {cs : Array Value} (h : Blk w g t cs) : (∀ j, w.cell? ⟨g, j, none⟩ = cs[j]?) ∧ (∀ j, w.frozen? ⟨g, j, none⟩ = false) :=
  ⟨fun j => by unfold Blk at h; simp [World.cell?, h], fun j => by unfold Blk at h; simp [World.frozen?, h]⟩
theorem Blk.lt {w : World} {g : Nat} {t : TypeId} {cs : Array Value} (h : Blk w g t cs) : g < w.heap.size := lt_of_block h
theorem Blk.below {w w' : World} {g B : Nat} {t : TypeId} {cs : Array Value} (h : Blk w g t cs) (hb : Below B w w') (hg : g < B) : Blk w' g t cs := (hb.block g hg).trans h
theorem Blk.set_ {w : World} {g : Nat} {t : TypeId} {cs : Array Value} (h : Blk w g t cs) (i : Nat) (u : Value) : Blk (w.setCell ⟨g, i, none⟩ u) g t (cs.setIfInBounds i u) := heap_setCell_same _ _ _ _ _ _ h
theorem Blk.turned {w w' : World} {g b : Nat} {t : TypeId} {cs ds : Array Value} (h : Blk w g t cs) (hT : Turned w b ds w') (hg : g ≠ b) : Blk w' g t cs := (hT.1.block g h.lt (by simpa using hg)).trans h
theorem Blk.far {w : World} {g : Nat} {t : TypeId} {cs : Array Value} (h : Blk w g t cs) {p : Addr} (hp : g ≠ p.block) (u : Value) : Blk (w.setCell p u) g t cs := (Below.heap_setCell w p u g hp).trans h
theorem three_boxes (w : World) (a b c : Array Value) (s t u : TypeId) :
    Blk (((w.alloc (.cells a s)).alloc (.cells b t)).alloc (.cells c u)) w.heap.size s a ∧ Blk (((w.alloc (.cells a s)).alloc (.cells b t)).alloc (.cells c u)) (w.heap.size + 1) t b ∧ Blk (((w.alloc (.cells a s)).alloc (.cells b t)).alloc (.cells c u)) (w.heap.size + 1 + 1) u c := by
  have z1 : (w.alloc (.cells a s)).heap.size = w.heap.size + 1 := by simp
  have z2 : ((w.alloc (.cells a s)).alloc (.cells b t)).heap.size = w.heap.size + 1 + 1 := by simp
  refine ⟨?_, ?_, ?_⟩
  · exact (Below.heap_alloc _ _ _ (by omega)).trans ((Below.heap_alloc _ _ _ (by omega)).trans (heap_alloc_new w _))
  · exact (Below.heap_alloc _ _ _ (by omega)).trans (by have := heap_alloc_new (w.alloc (.cells a s)) (.cells b t); rw [z1] at this; exact this)
  · have := heap_alloc_new ((w.alloc (.cells a s)).alloc (.cells b t)) (.cells c u); rw [z2] at this; exact this
abbrev zeroL : Array Value := #[.string ⟨#[]⟩, .int .i64 0, .string ⟨#[]⟩, .bool false, .slice none 0 0, .int .i64 0, .string ⟨#[]⟩]

theorem press_end {W : World} {g : Nat} {v0 v1 v2 v3 v4 v5 v6 n : Value} {tmps : Array Value} {R : Ending → World → Prop} (hk : Blk W g 37 #[v0, v1, v2, v3, v4, v5, v6]) (h6 : tmps.getD 6 undef = .pointer (some ⟨g, 0, none⟩)) (h7 : tmps.getD 7 undef = n)
    (hR : R (.returned (.tuple #[.agg #[v0, v1, v2, v3, v4, v5, v6], n])) W) : bodyPost Tryz.prog Tryz.f14 R .ret { tmps := tmps, defers := [] } W := by
  obtain ⟨c, z⟩ := hk.cell
  rw [Array.getD_eq_getD_getElem?] at h6 h7
  refine bodyPost_ret (v := .tuple #[.agg #[v0, v1, v2, v3, v4, v5, v6], n]) ?_ rfl hR
  simp [results, Tryz.results14, go_sem, h6, h7, c]

set_option maxRecDepth 100000 in
set_option maxHeartbeats 3200000 in
theorem press_err1 (l : EL) (bv hv : Value) (h : List ByteArray) (kind byte : Int) (w : World) (hb0 : ES w bv l.before) (hh : SL w hv h) (hf : Fit l) (hn : h.length ≤ 9223372036854775807) (hs : ∀ s ∈ h, s.size ≤ maxLen) (hx : ¬ pressedE l h h.length = 0) :
    Calls Tryz.prog 14 #[elV2 l bv, hv, .agg #[.int .i64 kind, .int .i64 byte]] w (PressPost w (pressL l h kind byte)) := by
  have hP := Lib.hid (fun W (hb : Below w.heap.size w W) => pressed_any l bv h hv h.length W (hb0.keep hb) (hh.keep hb) hf hn hs)
  rw [pressL_err1 hx]
  have hx2 : (pressedE l h h.length != 0) = true := by rw [bne_iff_ne]; exact hx
  obtain ⟨A, c, rfl, hc, hcells⟩ := hh
  have HB := Lib.hid (fun o1 o2 o3 => (((Below.refl _ w).alloc (Nat.le_refl _) o1).alloc (by simp) o2).alloc (by simp; omega) o3)
  clear hx hcells hf hs hb0
  generalize pressedE l h h.length = n at *
  obtain ⟨text, a, killed, killing, before, place, begun⟩ := l
  go_enter Tryz.func14, Tryz.ntmps14
  go_wp2_with fail
  have hbx := three_boxes w #[.string text, .int .i64 a, .string killed, .bool killing, bv, .int .i64 place, .string begun] #[.int .i64 kind, .int .i64 byte] zeroL 37 42 37
  obtain ⟨x1, x2, x3⟩ := hbx
  have X3 := Lib.hid x3
  clear x1 x2 x3
  refine (hP.out _ (HB.out _ _ _)).mono ?_
  rintro e w1 ⟨rfl, hb1⟩
  have HB1 := Lib.hid ((HB.out _ _ _).trans (hb1.mono (HB.out _ _ _).size))
  have k3 := X3.out.below hb1 X3.out.lt
  obtain ⟨c3, z3⟩ := k3.cell
  have K3 := Lib.hid k3
  clear hb1 k3 X3
  go_wp2
  refine press_end (((((((K3.out.set_ 0 _).set_ 1 _).set_ 2 _).set_ 3 _).set_ 4 _).set_ 5 _).set_ 6 _) rfl rfl ⟨.slice none 0 0, rfl, ES.nil _, (fun k hk => by cases hk), ?_⟩
  exact ((((((HB1.out.setCell (by simp; omega) _).setCell (by simp; omega) _).setCell (by simp; omega) _).setCell (by simp; omega) _).setCell (by simp; omega) _).setCell (by simp; omega) _).setCell (by simp; omega) _

set_option maxRecDepth 100000 in
set_option maxHeartbeats 3200000 in
theorem press_err2 (l : EL) (bv hv : Value) (h : List ByteArray) (kind byte : Int) (w : World) (hb0 : ES w bv l.before) (hh : SL w hv h) (hf : Fit l) (hn : h.length ≤ 9223372036854775807) (hs : ∀ s ∈ h, s.size ≤ maxLen) (h0 : pressedE l h h.length = 0) (hx : ¬ keyE kind byte = 0) :
    Calls Tryz.prog 14 #[elV2 l bv, hv, .agg #[.int .i64 kind, .int .i64 byte]] w (PressPost w (pressL l h kind byte)) := by
  have hP := Lib.hid (fun W (hb : Below w.heap.size w W) => pressed_any l bv h hv h.length W (hb0.keep hb) (hh.keep hb) hf hn hs)
  rw [h0] at hP
  have hK := Lib.hid (fun W => rightKey_any kind byte W)
  rw [pressL_err2 h0 hx]
  have hx2 : (keyE kind byte != 0) = true := by rw [bne_iff_ne]; exact hx
  obtain ⟨A, c, rfl, hc, hcells⟩ := hh
  have HB := Lib.hid (fun o1 o2 o3 => (((Below.refl _ w).alloc (Nat.le_refl _) o1).alloc (by simp) o2).alloc (by simp; omega) o3)
  clear h0 hx hcells hf hs hb0
  generalize keyE kind byte = n at *
  obtain ⟨text, a, killed, killing, before, place, begun⟩ := l
  go_enter Tryz.func14, Tryz.ntmps14
  go_wp2_with fail
  have hbx := three_boxes w #[.string text, .int .i64 a, .string killed, .bool killing, bv, .int .i64 place, .string begun] #[.int .i64 kind, .int .i64 byte] zeroL 37 42 37
  obtain ⟨x1, x2, x3⟩ := hbx
  have X3 := Lib.hid x3
  have X2 := Lib.hid x2
  clear x1 x2 x3
  refine (hP.out _ (HB.out _ _ _)).mono ?_
  rintro e w1 ⟨rfl, hb1⟩
  have HB1 := Lib.hid ((HB.out _ _ _).trans (hb1.mono (HB.out _ _ _).size))
  have k3 := X3.out.below hb1 X3.out.lt
  have K3 := Lib.hid k3
  have k2 := X2.out.below hb1 X2.out.lt
  have K2 := Lib.hid k2
  obtain ⟨c2, z2⟩ := k2.cell
  clear hb1 k3 k2 X3 X2
  go_wp2_with fail
  refine (hK.out _).mono ?_
  rintro e w2 ⟨rfl, hb2⟩
  have HB2 := Lib.hid (HB1.out.trans (hb2.mono HB1.out.size))
  have k3 := K3.out.below hb2 K3.out.lt
  have K3' := Lib.hid k3
  obtain ⟨c3, z3⟩ := k3.cell
  clear hb2 k3 c2 z2
  go_wp2
  refine press_end (((((((K3'.out.set_ 0 _).set_ 1 _).set_ 2 _).set_ 3 _).set_ 4 _).set_ 5 _).set_ 6 _) rfl rfl ⟨.slice none 0 0, rfl, ES.nil _, (fun k hk => by cases hk), ?_⟩
  exact ((((((HB2.out.setCell (by simp; omega) _).setCell (by simp; omega) _).setCell (by simp; omega) _).setCell (by simp; omega) _).setCell (by simp; omega) _).setCell (by simp; omega) _).setCell (by simp; omega) _

end Go.Proofs.YtokmiommhfbkeaaGreatDoor
