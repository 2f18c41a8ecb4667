/- QuoteIsConst: the meter of a word of plain pieces. -/
import Derived.Test.YtonejkomggpbbabGreatDoorQtMt
namespace Go.Proofs.YtonejkomggpbbabGreatDoor
open Go.RowKit Go.Shelf

def mfs (x d m : Nat) : Array Value :=
  #[.func (.func 73) #[] #[.pointer (some ⟨x, 0, none⟩), .pointer (some ⟨d, 0, none⟩), .pointer (some ⟨m, 0, none⟩)], .func (.func 74) #[] #[.pointer (some ⟨x, 0, none⟩), .pointer (some ⟨m, 0, none⟩), .pointer (some ⟨d, 0, none⟩)],
    .func (.func 76) #[] #[.pointer (some ⟨x, 0, none⟩), .pointer (some ⟨m, 0, none⟩), .pointer (some ⟨d, 0, none⟩)], .func (.func 78) #[] #[.pointer (some ⟨x, 0, none⟩), .pointer (some ⟨m, 0, none⟩), .pointer (some ⟨d, 0, none⟩)]]
set_option maxRecDepth 100000 in
set_option maxHeartbeats 3200000 in
theorem first_any (x d m b fb : Nat) (p : KT) (w : World) (hx : PBx w x p) (hd : w.cell? ⟨d, 0, none⟩ = some (.int .i64 1)) (hm : w.cell? ⟨m, 0, none⟩ = some (.pointer (some ⟨b, 0, none⟩))) (hf : ∀ j, w.cell? ⟨fb, j, none⟩ = (mfs x d m)[j]?) :
    Calls Tryz.prog 72 #[.slice (some ⟨fb, 0, none⟩) 4 4] w fun e w' => e = .returned (.int .i64 0) ∧ w' = w := by
  have HP1 := Lib.hid (p1_any x d m b p w hx hd hm)
  have HP2 := Lib.hid (p2_any x d m p w hx)
  have HP3 := Lib.hid (p3_any x d m p w hx)
  have HP4 := Lib.hid (p4_any x d m p w hx)
  have f0 := hf 0
  have f1 := hf 1
  have f2 := hf 2
  have f3 := hf 3
  simp only [mfs, List.getElem?_toArray, List.getElem?_cons_zero, List.getElem?_cons_succ] at f0 f1 f2 f3
  clear hf hx hd hm
  go_enter Tryz.func72, Tryz.ntmps72
  go_wp2_with fail
  refine wp_loop_rounds 5 ?_
  iterate 5
    rw [rounds_succ]
    go_wp2_with (first
      | (refine HP1.out.mono ?_; rintro e w1 ⟨rfl, hw1⟩; rw [hw1]; clear hw1)
      | (refine HP2.out.mono ?_; rintro e w1 ⟨rfl, hw1⟩; rw [hw1]; clear hw1)
      | (refine HP3.out.mono ?_; rintro e w1 ⟨rfl, hw1⟩; rw [hw1]; clear hw1)
      | (refine HP4.out.mono ?_; rintro e w1 ⟨rfl, hw1⟩; rw [hw1]; clear hw1))
  go_ret
  exact ⟨rfl, rfl⟩
def pV (p : KT) : Value := .agg #[.int .i64 p.1, .string (toB p.2), .slice none 0 0, .pointer none, .pointer none, .pointer none]
def om (b : Nat) : Obj := .cells #[.pointer (some ⟨b, 0, none⟩)] 60
def op (p : KT) : Obj := .cells #[.int .i64 p.1, .string (toB p.2), .slice none 0 0, .pointer none, .pointer none, .pointer none] 68
def oi : Obj := .cells #[.int .i64 1] 3
/-- the three boxes of the meter's arguments -/
structure M3 (b h : Nat) (p : KT) (w : World) : Prop where
  m : w.heap[h]? = some (om b)
  p : w.heap[h + 1]? = some (op p)
  d : w.heap[h + 2]? = some oi
theorem M3.start (w : World) (b : Nat) (p : KT) : M3 b w.heap.size p (((w.alloc (om b)).alloc (op p)).alloc oi) := by
  have h1 := heap_alloc_new w (om b)
  have h2 := heap_alloc_new (w.alloc (om b)) (op p)
  have h3 := heap_alloc_new ((w.alloc (om b)).alloc (op p)) oi
  have s1 : (w.alloc (om b)).heap.size = w.heap.size + 1 := by simp
  have s2 : ((w.alloc (om b)).alloc (op p)).heap.size = w.heap.size + 2 := by simp
  rw [s1] at h2
  rw [s2] at h3
  refine ⟨?_, ?_, h3⟩
  · rw [Below.heap_alloc _ _ _ (by rw [s2]; omega), Below.heap_alloc _ _ _ (by rw [s1]; omega)]
    exact h1
  · rw [Below.heap_alloc _ _ _ (by rw [s2]; omega)]
    exact h2
theorem M3.only {b h : Nat} {p : KT} {w w' : World} (k : M3 b h p w) (ho : Only b w w') (hb : b < h) : M3 b h p w' :=
  ⟨(ho.block h (Array.getElem?_eq_some_iff.1 k.m).1 (by omega)).trans k.m, (ho.block (h + 1) (Array.getElem?_eq_some_iff.1 k.p).1 (by omega)).trans k.p, (ho.block (h + 2) (Array.getElem?_eq_some_iff.1 k.d).1 (by omega)).trans k.d⟩
theorem M3.below {b h : Nat} {p : KT} {w w' : World} (k : M3 b h p w) (ho : Below w.heap.size w w') : M3 b h p w' :=
  ⟨(ho.block h (Array.getElem?_eq_some_iff.1 k.m).1).trans k.m, (ho.block (h + 1) (Array.getElem?_eq_some_iff.1 k.p).1).trans k.p, (ho.block (h + 2) (Array.getElem?_eq_some_iff.1 k.d).1).trans k.d⟩
theorem M3.look {b h : Nat} {p : KT} {w : World} (k : M3 b h p w) : w.cell? ⟨h, 0, none⟩ = some (.pointer (some ⟨b, 0, none⟩)) ∧ w.cell? ⟨h + 2, 0, none⟩ = some (.int .i64 1) ∧ PBx w (h + 1) p := by
  refine ⟨?_, ?_, k.p⟩
  · unfold World.cell?
    dsimp only
    rw [k.m]
    rfl
  · unfold World.cell?
    dsimp only
    rw [k.d]
    rfl
set_option maxRecDepth 100000 in
set_option maxHeartbeats 3200000 in
theorem mpiece_any (b n : Nat) (p : KT) (w : World) (h : Mt w b n) (hn : n < 1048576) :
    Calls Tryz.prog 45 #[.pointer (some ⟨b, 0, none⟩), pV p, .int .i64 1] w fun e w' => e = .returned (.int .i64 0) ∧ Mt w' b (n + 1) ∧ Only b w w' := by
  unfold pV
  have hmf : ∀ (fn : Fn) (first cap : Array Value) (w : World), (Instr.makeFunc fn first cap).run Tryz.prog w = .ok (.func fn first cap) w := fun _ _ _ _ => rfl
  have hbl := h.lt
  have hba : Below w.heap.size w (((w.alloc (om b)).alloc (op p)).alloc oi) := (((Below.refl w.heap.size w).alloc (Nat.le_refl _) _).alloc (by simp) _).alloc (by simp; omega) _
  have HM := Lib.hid (h.below hba)
  have HB := Lib.hid hba
  have H3 := Lib.hid (M3.start w b p)
  clear h hba
  go_enter Tryz.func45, Tryz.ntmps45
  go_upto_region 1 with fail
  change Code.wp _ _ _ _ (((w.alloc (om b)).alloc (op p)).alloc oi)
  generalize ((w.alloc (om b)).alloc (op p)).alloc oi = w1 at *
  generalize hx : w.heap.size = x at *
  obtain ⟨c0, c2, cp⟩ := H3.out.look
  clear cp
  have HP := Lib.hid (part_any b n w1 HM.out hn)
  go_wp2_with fail
  refine HP.out.mono ?_
  rintro e w2 ⟨rfl, hm2, ho2⟩
  have HM2 := Lib.hid hm2
  have H32 := Lib.hid (H3.out.only ho2 hbl)
  have HO2 := Lib.hid ((Only.of (b := b) HB.out (Nat.le_of_eq hx)).trans ho2)
  clear hm2 ho2 c0 c2
  obtain ⟨c0, c2, cp⟩ := H32.out.look
  have hb2 := (Below.refl w2.heap.size w2).alloc (Nat.le_refl _) (.cells (mfs (x + 1) (x + 2) x) 117)
  have hnew := heap_alloc_new w2 (.cells (mfs (x + 1) (x + 2) x) 117)
  obtain ⟨k0, k2, kp⟩ := (H32.out.below hb2).look
  have HF := Lib.hid (first_any (x + 1) (x + 2) x b w2.heap.size p (w2.alloc (.cells (mfs (x + 1) (x + 2) x) 117)) kp k2 k0 (fun j => by
    unfold World.cell?
    dsimp only
    rw [hnew]
    rfl))
  have HM3 := Lib.hid (HM2.out.below hb2)
  have HO3 := Lib.hid (HO2.out.trans (Only.of (b := b) hb2 (Nat.le_refl _)))
  clear cp hb2 hnew k0 k2 kp
  go_wp2_with fail
  refine HF.out.mono ?_
  rintro e w3 ⟨rfl, rfl⟩
  go_wp2_with fail
  go_ret
  exact ⟨rfl, HM3.out, HO3.out⟩
theorem own_not {w w' : World} {B b n k : Nat} {e : TypeId} {v : Value} {xs : List Value} (h : w.ownsRow B e k v n xs) (ho : Only b w w') (hb : v.ownBlock ≠ some b) : w'.ownsRow B e k v n xs := by
  refine ⟨h.1, ?_⟩
  rcases h.2 with h0 | ⟨g, cap, cur, rfl, hg0, hg, h3⟩
  · exact .inl h0
  · exact .inr ⟨g, cap, cur, rfl, hg0, (ho.block g (Array.getElem?_eq_some_iff.1 hg).1 (fun e => hb (by rw [e]; rfl))).trans hg, h3⟩
/-- the pieces of a word are measured -/
theorem row_cells {w : World} {B g c : Nat} {L : List KT} (h : w.ownsRow B 68 6 (.slice (some ⟨g, 0, none⟩) L.length c) L.length (rowQ L)) (k : Nat) (hk : k < L.length) :
    w.cell? ⟨g, k * 6, none⟩ = some (.int .i64 L[k].1) ∧ w.cell? ⟨g, k * 6 + 1, none⟩ = some (.string (toB L[k].2)) ∧ w.cell? ⟨g, k * 6 + 2, none⟩ = some (.slice none 0 0) ∧ w.cell? ⟨g, k * 6 + 3, none⟩ = some (.pointer none) ∧ w.cell? ⟨g, k * 6 + 4, none⟩ = some (.pointer none) ∧ w.cell? ⟨g, k * 6 + 5, none⟩ = some (.pointer none) := by
  have hc : ∀ i, i < 6 → w.cell? ⟨g, k * 6 + i, none⟩ = (pcV L[k])[i]? := fun i hi => by
    rw [h.cellAt (k * 6 + i) (by omega)]
    exact rowQ_at L k i hk hi
  exact ⟨hc 0 (by decide), hc 1 (by decide), hc 2 (by decide), hc 3 (by decide), hc 4 (by decide), hc 5 (by decide)⟩
set_option maxRecDepth 100000 in
set_option maxHeartbeats 3200000 in
theorem every_row (b n B g c : Nat) (L : List KT) (w : World) (h : Mt w b n) (hn : n + L.length < 1048576) (ho : w.ownsRow B 68 6 (.slice (some ⟨g, 0, none⟩) L.length c) L.length (rowQ L)) (hb : g ≠ b) :
    Calls Tryz.prog 44 #[.slice (some ⟨g, 0, none⟩) L.length c, .int .i64 1, .func (.func 45) #[.pointer (some ⟨b, 0, none⟩)] #[]] w fun e w' => e = .returned (.int .i64 0) ∧ Mt w' b (n + L.length) ∧ Only b w w' := by
  have HM := Lib.hid h
  have HO := Lib.hid ho
  clear h ho
  go_enter Tryz.func44, Tryz.ntmps44
  go_wp2_with fail
  go_loopw [12] (fun s12 wr => ∃ k : Nat, s12 = .int .i64 (k : Int) ∧ k ≤ L.length ∧ Hid (Mt wr b (n + k)) ∧ Hid (wr.ownsRow B 68 6 (.slice (some ⟨g, 0, none⟩) L.length c) L.length (rowQ L)) ∧ Hid (Only b w wr)) (fun s12 _ => L.length - (intOf s12).toNat)
  case atStart => exact ⟨0, rfl, Nat.zero_le _, HM, HO, Lib.hid (Only.refl b w)⟩
  case round =>
    clear HM HO
    obtain ⟨k, rfl, hk, HM, HO, HF⟩ := hrel
    by_cases hlt : k < L.length
    · obtain ⟨k0, k1, k2, k3, k4, k5⟩ := row_cells HO.out k hlt
      have hlk : (k : Int) < (L.length : Int) := by omega
      generalize L[k] = p at *
      have hba := (Below.refl wr.heap.size wr).alloc (Nat.le_refl _) (op p)
      have HM2 := Lib.hid (HM.out.below hba)
      have HO2 := Lib.hid (HO.out.alloc (op p))
      have HF2 := Lib.hid (HF.out.trans (Only.of (b := b) hba (Nat.le_refl _)))
      have HP := Lib.hid (mpiece_any b (n + k) p (wr.alloc (op p)) HM2.out (by omega))
      unfold pV op at HP
      unfold op at HM2 HO2 HF2
      clear hba
      go_wp2_with fail
      refine HP.out.mono ?_
      rintro e w3 ⟨rfl, hm3, ho3⟩
      have HM3 := Lib.hid hm3
      have HO3 := Lib.hid (own_not HO2.out ho3 (by simp [Value.ownBlock, hb]))
      have HF3 := Lib.hid (HF2.out.trans ho3)
      clear hm3 ho3 k0 k1 k2 k3 k4 k5
      go_wp2_with fail
      exact ⟨⟨k + 1, by go_num, by omega, HM3, HO3, HF3⟩, by simp [intOf]; omega⟩
    · obtain rfl : k = L.length := by omega
      go_wp2_with fail
      go_ret
      exact ⟨rfl, HM.out, HF.out⟩
set_option maxRecDepth 100000 in
set_option maxHeartbeats 3200000 in
theorem mword_any (b n B : Nat) (v : Value) (L : List KT) (w : World) (h : Mt w b n) (hn : n + L.length < 1048576) (ho : w.ownsRow B 68 6 v L.length (rowQ L)) (hb : v.ownBlock ≠ some b) :
    Calls Tryz.prog 30 #[.pointer (some ⟨b, 0, none⟩), v, .int .i64 1] w fun e w' => e = .returned (.int .i64 0) ∧ (∃ n', Mt w' b n') ∧ Only b w w' := by
  have hmf : ∀ (fn : Fn) (first cap : Array Value) (w : World), (Instr.makeFunc fn first cap).run Tryz.prog w = .ok (.func fn first cap) w := fun _ _ _ _ => rfl
  have HE : Hid (Calls Tryz.prog 44 #[v, .int .i64 1, .func (.func 45) #[.pointer (some ⟨b, 0, none⟩)] #[]] w fun e w' => e = .returned (.int .i64 0) ∧ (∃ n', Mt w' b n') ∧ Only b w w') := Lib.hid (by
    rcases ho.2 with ⟨rfl, h0⟩ | ⟨g, cap, cur, rfl, _⟩
    · refine (every_none 1 _ w).mono ?_
      rintro e w' ⟨rfl, rfl⟩
      exact ⟨rfl, ⟨n, h⟩, Only.refl b w'⟩
    · refine (every_row b n B g cap L w h hn ho (fun e => hb (by rw [e]; rfl))).mono ?_
      rintro e w' ⟨rfl, hm, hf⟩
      exact ⟨rfl, ⟨_, hm⟩, hf⟩)
  clear h ho
  go_enter Tryz.func30, Tryz.ntmps30
  go_wp2_with fail
  refine HE.out.mono ?_
  rintro e w2 ⟨rfl, hm, hf⟩
  have HM := Lib.hid hm
  have HF := Lib.hid hf
  clear hm hf
  go_wp2_with fail
  go_ret
  exact ⟨rfl, HM.out, HF.out⟩
end Go.Proofs.YtonejkomggpbbabGreatDoor
