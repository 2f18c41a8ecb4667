/- The reference's Rows: its closure puts a piece as the program's divider does. -/
import Derived.Test.YtokmiommhfbkeaaGreatDoorRowsI
namespace Go.Proofs.YtokmiommhfbkeaaGreatDoor
open Go.RowKit

/-- the boxes of the reference's Rows: row, wide, rows, numbers, number, column -/
structure RL (w : World) (B b1 b2 b3 b4 b5 b6 : Nat) (wide n : Int) (x : St) (col : Nat) (v1 v2 : Value) : Prop where
  k1 : w.heap[b1]? = some (.cells #[.string ⟨x.2.2.toArray⟩] 9 (0, 0))
  k2 : w.heap[b2]? = some (.cells #[.int .i64 wide] 3 (0, 0))
  k3 : w.heap[b3]? = some (.cells #[v1] 22 (0, 0))
  k4 : w.heap[b4]? = some (.cells #[v2] 69 (0, 0))
  k5 : w.heap[b5]? = some (.cells #[.int .i64 n] 3 (0, 0))
  k6 : w.heap[b6]? = some (.cells #[.int .i64 col] 3 (0, 0))
  o1 : w.ownsRow B 9 1 v1 x.1.length (x.1.map Value.string)
  o2 : w.ownsRow B 3 1 v2 x.2.1.length (x.2.1.map (Value.int .i64))
  n1 : some b1 ≠ v1.ownBlock
  n2 : some b2 ≠ v2.ownBlock
  n5 : some b5 ≠ v2.ownBlock
  n6 : some b6 ≠ v2.ownBlock
  d : B ≤ b1 ∧ B ≤ b3 ∧ B ≤ b4 ∧ B ≤ b6 ∧ b2 ≠ b6 ∧ b5 ≠ b6

section
variable {w w' : World} {B b1 b2 b3 b4 b5 b6 : Nat} {wide n : Int} {x : St} {col : Nat} {v1 v2 : Value}

/-- two boxes of unlike types are apart -/
theorem box_ne {b b' : Nat} {cs cs' : Array Value} {t t' : TypeId} {z z' : Nat × Nat} (h : w.heap[b]? = some (.cells cs t z)) (h' : w.heap[b']? = some (.cells cs' t' z')) (hne : t ≠ t') : b ≠ b' := fun e => by
  subst e
  rw [h] at h'
  exact hne (by simpa using congrArg (fun o => match o with | some (Obj.cells _ t _) => t | _ => 0) h')

theorem RL.setRow (h : RL w B b1 b2 b3 b4 b5 b6 wide n x col v1 v2) (r : List UInt8) : RL (w.setCell ⟨b1, 0, none⟩ (.string ⟨r.toArray⟩)) B b1 b2 b3 b4 b5 b6 wide n (x.1, x.2.1, r) col v1 v2 where
  k1 := one_setCell h.k1
  k2 := (Below.heap_setCell _ _ _ _ (box_ne h.k2 h.k1 (by decide))).trans h.k2
  k3 := (Below.heap_setCell _ _ _ _ (box_ne h.k3 h.k1 (by decide))).trans h.k3
  k4 := (Below.heap_setCell _ _ _ _ (box_ne h.k4 h.k1 (by decide))).trans h.k4
  k5 := (Below.heap_setCell _ _ _ _ (box_ne h.k5 h.k1 (by decide))).trans h.k5
  k6 := (Below.heap_setCell _ _ _ _ (box_ne h.k6 h.k1 (by decide))).trans h.k6
  o1 := ownsRow_setCell_other h.o1 (fun e => h.n1 e.symm) _
  o2 := ownsRow_setCell_other h.o2 (fun e => buf_ne h.o2 h.k1 (by decide) e.symm) _
  n1 := h.n1
  n2 := h.n2
  n5 := h.n5
  n6 := h.n6
  d := h.d
theorem RL.setCol (h : RL w B b1 b2 b3 b4 b5 b6 wide n x col v1 v2) (c : Nat) : RL (w.setCell ⟨b6, 0, none⟩ (.int .i64 c)) B b1 b2 b3 b4 b5 b6 wide n x c v1 v2 where
  k1 := (Below.heap_setCell _ _ _ _ (box_ne h.k1 h.k6 (by decide))).trans h.k1
  k2 := (Below.heap_setCell _ _ _ _ h.d.2.2.2.2.1).trans h.k2
  k3 := (Below.heap_setCell _ _ _ _ (box_ne h.k3 h.k6 (by decide))).trans h.k3
  k4 := (Below.heap_setCell _ _ _ _ (box_ne h.k4 h.k6 (by decide))).trans h.k4
  k5 := (Below.heap_setCell _ _ _ _ h.d.2.2.2.2.2).trans h.k5
  k6 := one_setCell h.k6
  o1 := ownsRow_setCell_other h.o1 (fun e => buf_ne h.o1 h.k6 (by decide) e.symm) _
  o2 := ownsRow_setCell_other h.o2 (fun e => h.n6 e.symm) _
  n1 := h.n1
  n2 := h.n2
  n5 := h.n5
  n6 := h.n6
  d := h.d
/-- the boxes behind two appends -/
theorem RL.two (h : RL w B b1 b2 b3 b4 b5 b6 wide n x col v1 v2) (hT : Two w.drew v1.ownBlock v2.ownBlock w') :
    w'.heap[b1]? = some (.cells #[.string ⟨x.2.2.toArray⟩] 9 (0, 0)) ∧ w'.heap[b2]? = some (.cells #[.int .i64 wide] 3 (0, 0)) ∧ w'.heap[b3]? = some (.cells #[v1] 22 (0, 0)) ∧
    w'.heap[b4]? = some (.cells #[v2] 69 (0, 0)) ∧ w'.heap[b5]? = some (.cells #[.int .i64 n] 3 (0, 0)) ∧ w'.heap[b6]? = some (.cells #[.int .i64 col] 3 (0, 0)) :=
  ⟨(hT.block b1 (lt_some h.k1) h.n1 (buf_ne h.o2 h.k1 (by decide))).trans h.k1, (hT.block b2 (lt_some h.k2) (buf_ne h.o1 h.k2 (by decide)) h.n2).trans h.k2,
   (hT.block b3 (lt_some h.k3) (buf_ne h.o1 h.k3 (by decide)) (buf_ne h.o2 h.k3 (by decide))).trans h.k3, (hT.block b4 (lt_some h.k4) (buf_ne h.o1 h.k4 (by decide)) (buf_ne h.o2 h.k4 (by decide))).trans h.k4,
   (hT.block b5 (lt_some h.k5) (buf_ne h.o1 h.k5 (by decide)) h.n5).trans h.k5, (hT.block b6 (lt_some h.k6) (buf_ne h.o1 h.k6 (by decide)) h.n6).trans h.k6⟩

theorem fresh_ne {b : Nat} {u v : Value} {w0 : World} (hb : b < w0.heap.size) (h : some b ≠ v.ownBlock) (f : u.ownBlock = v.ownBlock ∨ ∃ k, u.ownBlock = some k ∧ w0.heap.size ≤ k) : some b ≠ u.ownBlock := by
  rcases f with f | ⟨k, f, hk⟩
  · rw [f]; exact h
  · rw [f]; intro e; cases e; omega

theorem RL.setLists (h : RL w B b1 b2 b3 b4 b5 b6 wide n x col v1 v2) (hT : Two w.drew v1.ownBlock v2.ownBlock w') {u1 u2 : Value} {rows : List ByteArray} {nums : List Int}
    (g1 : w'.ownsRow B 9 1 u1 rows.length (rows.map Value.string)) (g2 : w'.ownsRow B 3 1 u2 nums.length (nums.map (Value.int .i64)))
    (f1 : u1.ownBlock = v1.ownBlock ∨ ∃ k, u1.ownBlock = some k ∧ w.drew.heap.size ≤ k) (f2 : u2.ownBlock = v2.ownBlock ∨ ∃ k, u2.ownBlock = some k ∧ w.drew.heap.size ≤ k) :
    RL ((w'.setCell ⟨b3, 0, none⟩ u1).setCell ⟨b4, 0, none⟩ u2) B b1 b2 b3 b4 b5 b6 wide n (rows, nums, x.2.2) col u1 u2 := by
  obtain ⟨q1, q2, q3, q4, q5, q6⟩ := h.two hT
  have st : ∀ {b : Nat} {o : Obj}, b ≠ b3 → b ≠ b4 → w'.heap[b]? = some o → ((w'.setCell ⟨b3, 0, none⟩ u1).setCell ⟨b4, 0, none⟩ u2).heap[b]? = some o := fun h3 h4 hq =>
    (Below.heap_setCell _ _ _ _ h4).trans ((Below.heap_setCell _ _ _ _ h3).trans hq)
  exact {
    k1 := st (box_ne q1 q3 (by decide)) (box_ne q1 q4 (by decide)) q1
    k2 := st (box_ne q2 q3 (by decide)) (box_ne q2 q4 (by decide)) q2
    k3 := (Below.heap_setCell _ _ _ _ (box_ne q3 q4 (by decide))).trans (one_setCell q3)
    k4 := one_setCell ((Below.heap_setCell _ _ _ _ (box_ne q4 q3 (by decide))).trans q4)
    k5 := st (box_ne q5 q3 (by decide)) (box_ne q5 q4 (by decide)) q5
    k6 := st (box_ne q6 q3 (by decide)) (box_ne q6 q4 (by decide)) q6
    o1 := ownsRow_setCell_other (ownsRow_setCell_other g1 (fun e => buf_ne g1 q3 (by decide) e.symm) _) (fun e => buf_ne g1 q4 (by decide) e.symm) _
    o2 := ownsRow_setCell_other (ownsRow_setCell_other g2 (fun e => buf_ne g2 q3 (by decide) e.symm) _) (fun e => buf_ne g2 q4 (by decide) e.symm) _
    n1 := fresh_ne (w0 := w.drew) (lt_some h.k1) h.n1 f1
    n2 := fresh_ne (w0 := w.drew) (lt_some h.k2) h.n2 f2
    n5 := fresh_ne (w0 := w.drew) (lt_some h.k5) h.n5 f2
    n6 := fresh_ne (w0 := w.drew) (lt_some h.k6) h.n6 f2
    d := h.d }
end

/-- one piece was put -/
def PutP (B b1 b2 b3 b4 b5 b6 : Nat) (wide n : Int) (x : St) (col : Nat) (w : World) (e : Ending) (w' : World) : Prop :=
  e = .returned (.tuple #[]) ∧ Below B w w' ∧ ∃ v1 v2, RL w' B b1 b2 b3 b4 b5 b6 wide n x col v1 v2

set_option maxRecDepth 100000 in
set_option maxHeartbeats 1600000 in
theorem rput_any (w : World) (B b1 b2 b3 b4 b5 b6 : Nat) (wide n : Int) (x : St) (col : Nat) (v1 v2 : Value) (s : List UInt8) (h : RL w B b1 b2 b3 b4 b5 b6 wide n x col v1 v2)
    (h1 : x.1.length ≤ 4000000000000) (h2 : x.2.1.length ≤ 4000000000000) (h3 : x.2.2.length ≤ 1000) (h4 : s.length ≤ 1000) (h5 : col ≤ 4000000000000) :
    Calls Tryz.prog 126 #[.string ⟨s.toArray⟩, .pointer (some ⟨b1, 0, none⟩), .pointer (some ⟨b2, 0, none⟩), .pointer (some ⟨b3, 0, none⟩), .pointer (some ⟨b4, 0, none⟩), .pointer (some ⟨b5, 0, none⟩), .pointer (some ⟨b6, 0, none⟩)] w
      (PutP B b1 b2 b3 b4 b5 b6 wide n (putR wide n s x) (col + s.length) w) := by
  obtain ⟨rows, nums, row0⟩ := x
  have H := Lib.hid h
  have c1 := cell_of_one h.k1
  have c2 := cell_of_one h.k2
  have c3 := cell_of_one h.k3
  have c4 := cell_of_one h.k4
  have c5 := cell_of_one h.k5
  have c6 := cell_of_one h.k6
  have z1 := free_of_one h.k1
  have z6 := free_of_one h.k6
  have l1 := lt_some h.k1
  have hB : B ≤ w.heap.size := by have := h.d.1; omega
  have o1 := h.o1
  have o2 := h.o2
  have hbox := fun W hW => h.two (w' := W) hW
  clear h
  dsimp only at *
  by_cases hgt : wide < (row0.length : Int) + s.length
  · have hput : putR wide n s (rows, nums, row0) = (rows ++ [⟨row0.toArray⟩], nums ++ [n], s) := by unfold putR; rw [if_pos hgt]
    rw [hput]
    obtain ⟨ja, ha, ha0, ha1, ha2⟩ := info_parts info_str
    obtain ⟨jb, hb, hb0, hb1, hb2⟩ := info_parts info_int
    go_enter Tryz.func126, Tryz.ntmps126
    go_wp2_with fail
    refine wp_region_tail 8 (Two w.drew v1.ownBlock v2.ownBlock) rfl (by decide) ?_
    refine wpAnyT_take 99 0 (v := v1) (by kernel_rfl) rfl (by kernel_rfl) (fun _ _ _ h => h) (Or.inl ⟨rfl, fun W hW => by have := cell_of_one (hbox W hW).2.2.1; go_simp⟩) (Two.refl _ _ _) ?_
    refine wpAnyT_take 99 1 (v := .string ⟨row0.toArray⟩) (by kernel_rfl) rfl (by kernel_rfl) (fun _ _ _ h => h) (Or.inl ⟨rfl, fun W hW => by have := cell_of_one (hbox W hW).1; go_simp⟩) (Two.refl _ _ _) ?_
    refine wpAnyT_take 99 4 (v := v2) (by kernel_rfl) rfl (by kernel_rfl) (fun _ _ _ h => h) (Or.inl ⟨rfl, fun W hW => by have := cell_of_one (hbox W hW).2.2.2.1; go_simp⟩) (Two.refl _ _ _) ?_
    refine wpAnyT_take 99 5 (v := .int .i64 n) (by kernel_rfl) rfl (by kernel_rfl) (fun _ _ _ h => h) (Or.inl ⟨rfl, fun W hW => by have := cell_of_one (hbox W hW).2.2.2.2.1; go_simp⟩) (Two.refl _ _ _) ?_
    refine two_appends (i1 := 2) (i2 := 3) (i3 := 6) (i4 := 7) (s1 := 15) (x1 := 16) (d1 := 17) (e1 := 18) (s2 := 19) (x2 := 20) (d2 := 21) (e2 := 22) (T1 := 22) (E1 := 9) (T2 := 69) (E2 := 3) (y1 := .string ⟨row0.toArray⟩) (y2 := .int .i64 n) (b1 := 16) (b2 := 8)
      (v1 := v1) (v2 := v2) ⟨rfl, rfl, rfl, rfl, rfl, rfl, rfl, rfl, Tryz.underlying22, ha, ha0, ha1, ha2, rfl⟩ ⟨rfl, rfl, rfl, rfl, rfl, rfl, rfl, rfl, Tryz.underlying69, hb, hb0, hb1, hb2, rfl⟩ (by decide) ?ord (by decide) ?hlt ?q1 ?q2 ?q3 ?q4 ⟨rfl, rfl⟩ ⟨rfl, rfl⟩ o1 o2 (by simp; omega) (by unfold maxLen; omega) (by unfold maxLen; omega) (by omega) (by omega) ?_
    case ord => kernel_rfl
    case hlt => exact ⟨by simp [Act.put], by simp [Act.put]⟩
    case q1 => simp [Act.eval, Act.put]
    case q2 => simp [Act.eval, Act.put]
    case q3 => simp [Act.eval, Act.put]
    case q4 => simp [Act.eval, Act.put]
    intro u1 u2 v1' v2' w' hT g1 g2 f1 f2
    have HL := Lib.hid (H.out.setLists hT (rows := rows ++ [⟨row0.toArray⟩]) (nums := nums ++ [n]) (by rw [List.length_append, List.map_append]; exact g1) (by rw [List.length_append, List.map_append]; exact g2) f1 f2)
    obtain ⟨p1, q1, rfl⟩ := own_form g1
    obtain ⟨p2, q2, rfl⟩ := own_form g2
    have hk := hbox w' hT
    obtain ⟨d1, d2, d3, d4, d5, d6⟩ := hk
    have e1 := cell_of_one d1
    have e2 := cell_of_one d2
    have e3 := cell_of_one d3
    have e4 := cell_of_one d4
    have e6 := cell_of_one d6
    have y1 := free_of_one d1
    have y3 := free_of_one d3
    have y4 := free_of_one d4
    have y6 := free_of_one d6
    have BW := Lib.hid (two_below hT o1 o2 hB)
    have m13 := box_ne d1 d3 (by decide)
    have m14 := box_ne d1 d4 (by decide)
    have m34 := box_ne d3 d4 (by decide)
    have m61 := box_ne d6 d1 (by decide)
    have m63 := box_ne d6 d3 (by decide)
    have m64 := box_ne d6 d4 (by decide)
    clear hbox g1 g2 f1 f2 hT d1 d2 d3 d4 d5 d6 o1 o2 c1 c2 c3 c4 c5 c6 z1 z6
    simp only [List.drop_succ_cons, List.drop_zero]
    go_wp2
    go_end0
    rw [show (col : Int) + s.length = ((col + s.length : Nat) : Int) by omega, show (⟨#[]⟩ : ByteArray) ++ ⟨s.toArray⟩ = ⟨s.toArray⟩ from ByteArray.mk_append_mk [] s]
    obtain ⟨j1, j3, j4, j6, _⟩ := H.out.d
    exact ⟨rfl, ((((BW.out.setCell j3 _).setCell j4 _).setCell j1 _).setCell j1 _).setCell j6 _, _, _, ((HL.out.setRow []).setRow s).setCol _⟩
  · have hput : putR wide n s (rows, nums, row0) = (rows, nums, row0 ++ s) := by unfold putR; rw [if_neg hgt]
    rw [hput]
    clear hbox
    have m61 := box_ne H.out.k6 H.out.k1 (by decide)
    go_enter Tryz.func126, Tryz.ntmps126
    go_wp2
    go_end0
    rw [show (col : Int) + s.length = ((col + s.length : Nat) : Int) by omega, show (⟨row0.toArray⟩ : ByteArray) ++ ⟨s.toArray⟩ = ⟨(row0 ++ s).toArray⟩ from ByteArray.mk_append_mk row0 s]
    obtain ⟨j1, j3, j4, j6, _⟩ := H.out.d
    exact ⟨rfl, ((Below.refl _ _).setCell j1 _).setCell j6 _, _, _, (H.out.setRow (row0 ++ s)).setCol _⟩

end Go.Proofs.YtokmiommhfbkeaaGreatDoor
