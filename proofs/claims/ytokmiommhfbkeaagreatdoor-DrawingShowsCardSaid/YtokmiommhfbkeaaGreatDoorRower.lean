/- Rows: the program's divider of lines, in its box: a row is closed, a piece is put. -/
import Derived.Test.YtokmiommhfbkeaaGreatDoorHeld
import Derived.Test.YtokmiommhfbkeaaGreatDoorStrs
import Derived.Test.YtokmiommhfbkeaaGreatDoorShownRef
import Derived.BigQuiet
namespace Go.Proofs.YtokmiommhfbkeaaGreatDoor
open Go.RowKit

/-- what a row becomes by a piece -/
def putR (wide : Int) (n : Int) (s : List UInt8) (x : List ByteArray × List Int × List UInt8) : List ByteArray × List Int × List UInt8 :=
  if (x.2.2.length : Int) + s.length > wide then (x.1 ++ [⟨x.2.2.toArray⟩], x.2.1 ++ [n], s) else (x.1, x.2.1, x.2.2 ++ s)

theorem own_form {w : World} {B e s n : Nat} {v : Value} {xs : List Value} (h : w.ownsRow B e s v n xs) : ∃ p c, v = .slice p n c := by
  rcases h.2 with ⟨rfl, rfl⟩ | ⟨g, c, cur, rfl, _⟩
  · exact ⟨_, _, rfl⟩
  · exact ⟨_, _, rfl⟩
theorem info_str : (Tryz.prog.info? 9).map (fun i => (i.zero, i.size, i.bytes)) = some (some (.string ⟨#[]⟩), 1, 16) := by kernel_rfl
theorem info_int : (Tryz.prog.info? 3).map (fun i => (i.zero, i.size, i.bytes)) = some (some (.int .i64 0), 1, 8) := by kernel_rfl

/-- the divider of rows, in its box -/
def RW (w : World) (B b : Nat) (wide : Int) (x : List ByteArray × List Int × List UInt8) : Prop :=
  B ≤ b ∧ ∃ v1 v2, w.heap[b]? = some (.cells #[.int .i64 wide, v1, v2, .string ⟨x.2.2.toArray⟩] 71 (0, 0)) ∧
    w.ownsRow B 9 1 v1 x.1.length (x.1.map Value.string) ∧ w.ownsRow B 3 1 v2 x.2.1.length (x.2.1.map (Value.int .i64))

theorem two_below {w w' : World} {B e1 e2 n1 n2 : Nat} {v1 v2 : Value} {xs ys : List Value} (hT : Two w.drew v1.ownBlock v2.ownBlock w') (o1 : w.ownsRow B e1 1 v1 n1 xs) (o2 : w.ownsRow B e2 1 v2 n2 ys) (hB : B ≤ w.heap.size) : Below B w w' :=
  ⟨hT.os, hT.tape, hT.output, hT.size, fun k hk => hT.block k (Nat.lt_of_lt_of_le hk hB) (fun e => by have := (o1.lt k e.symm).1; omega) (fun e => by have := (o2.lt k e.symm).1; omega)⟩

theorem rw_set {w w' : World} {B b : Nat} {wide : Int} {v1 v2 v1' v2' : Value} {row : ByteArray} {rows : List ByteArray} {nums : List Int} {l : List UInt8} (hb : Below B w w') (hBb : B ≤ b)
    (hk : w'.heap[b]? = some (.cells #[.int .i64 wide, v1, v2, .string row] 71 (0, 0)))
    (g1 : w'.ownsRow B 9 1 v1' rows.length (rows.map Value.string)) (g2 : w'.ownsRow B 3 1 v2' nums.length (nums.map (Value.int .i64))) :
    Below B w (((w'.setCell ⟨b, 1, none⟩ v1').setCell ⟨b, 2, none⟩ v2').setCell ⟨b, 3, none⟩ (.string ⟨l.toArray⟩)) ∧ RW (((w'.setCell ⟨b, 1, none⟩ v1').setCell ⟨b, 2, none⟩ v2').setCell ⟨b, 3, none⟩ (.string ⟨l.toArray⟩)) B b wide (rows, nums, l) := by
  have n1 := fun e => buf_ne g1 hk (by decide) (Eq.symm e)
  have n2 := fun e => buf_ne g2 hk (by decide) (Eq.symm e)
  refine ⟨((hb.setCell hBb _).setCell hBb _).setCell hBb _, hBb, v1', v2', ?_, ownsRow_setCell_other (ownsRow_setCell_other (ownsRow_setCell_other g1 n1 _) n1 _) n1 _, ownsRow_setCell_other (ownsRow_setCell_other (ownsRow_setCell_other g2 n2 _) n2 _) n2 _⟩
  rw [heap_setCell_same _ _ _ _ _ _ (heap_setCell_same _ _ _ _ _ _ (heap_setCell_same _ _ _ _ _ _ hk))]
  rfl

set_option maxRecDepth 100000 in
set_option maxHeartbeats 800000 in
theorem close_any (w : World) (B b : Nat) (wide n : Int) (x : List ByteArray × List Int × List UInt8) (h : RW w B b wide x) (h1 : x.1.length ≤ 4000000000000) (h2 : x.2.1.length ≤ 4000000000000) :
    Calls Tryz.prog 186 #[.pointer (some ⟨b, 0, none⟩), .int .i64 n] w fun e w' => e = .returned (.tuple #[]) ∧ Below B w w' ∧ RW w' B b wide (x.1 ++ [⟨x.2.2.toArray⟩], x.2.1 ++ [n], []) := by
  obtain ⟨rows, nums, row0⟩ := x
  obtain ⟨hBb, v1, v2, hk, o1, o2⟩ := h
  dsimp only at *
  generalize hrow : (⟨row0.toArray⟩ : ByteArray) = row at *
  have hbs := lt_some hk
  obtain ⟨ja, ha, ha0, ha1, ha2⟩ := info_parts info_str
  obtain ⟨jb, hb, hb0, hb1, hb2⟩ := info_parts info_int
  have nb1 := buf_ne o1 hk (by decide)
  have nb2 := buf_ne o2 hk (by decide)
  have kk : ∀ W, Two w.drew v1.ownBlock v2.ownBlock W → W.heap[b]? = some (.cells #[.int .i64 wide, v1, v2, .string row] 71 (0, 0)) := fun W hW => (hW.block b hbs nb1 nb2).trans hk
  have cc : ∀ W, Two w.drew v1.ownBlock v2.ownBlock W → ∀ j, W.cell? ⟨b, j, none⟩ = #[Value.int .i64 wide, v1, v2, .string row][j]? := fun W hW j => by
    simp [World.cell?, kk W hW]
  go_enter Tryz.func186, Tryz.ntmps186
  go_wp2_with fail
  refine wp_region_any rfl ?_
  refine wpAny_take (i := 1) (v := .pointer (some ⟨b, 0, none⟩)) rfl (by kernel_rfl) (by kernel_rfl) (by kernel_rfl) (fun _ _ _ h => h) (Or.inl ⟨rfl, fun W => by go_simp⟩) ?_
  refine wpAny_tail 19 18 (Two w.drew v1.ownBlock v2.ownBlock) ?_
  refine wpAnyT_take 1 0 (v := (.pointer (some ⟨b, 0, none⟩))) (by kernel_rfl) rfl (by kernel_rfl) (fun _ _ _ h => h) (Or.inl ⟨rfl, fun W hW => by go_simp⟩) (Two.refl _ _ _) ?_
  refine wpAnyT_take 1 2 (v := (.pointer (some ⟨b, 0, none⟩))) (by kernel_rfl) rfl (by kernel_rfl) (fun _ _ _ h => h) (Or.inl ⟨rfl, fun W hW => by go_simp⟩) (Two.refl _ _ _) ?_
  refine wpAnyT_take 1 3 (v := (.pointer (some ⟨b, 0, none⟩))) (by kernel_rfl) rfl (by kernel_rfl) (fun _ _ _ h => h) (Or.inl ⟨rfl, fun W hW => by go_simp⟩) (Two.refl _ _ _) ?_
  refine wpAnyT_take 1 4 (v := (.pointer (some ⟨b, 1, none⟩))) (by kernel_rfl) rfl (by kernel_rfl) (fun _ _ _ h => h) (Or.inl ⟨rfl, fun W hW => by go_simp⟩) (Two.refl _ _ _) ?_
  refine wpAnyT_take 1 5 (v := v1) (by kernel_rfl) rfl (by kernel_rfl) (fun _ _ _ h => h) (Or.inl ⟨rfl, fun W hW => by have := cc W hW 1; go_simp⟩) (Two.refl _ _ _) ?_
  refine wpAnyT_take 1 6 (v := (.pointer (some ⟨b, 0, none⟩))) (by kernel_rfl) rfl (by kernel_rfl) (fun _ _ _ h => h) (Or.inl ⟨rfl, fun W hW => by go_simp⟩) (Two.refl _ _ _) ?_
  refine wpAnyT_take 1 7 (v := (.pointer (some ⟨b, 0, none⟩))) (by kernel_rfl) rfl (by kernel_rfl) (fun _ _ _ h => h) (Or.inl ⟨rfl, fun W hW => by go_simp⟩) (Two.refl _ _ _) ?_
  refine wpAnyT_take 1 8 (v := (.pointer (some ⟨b, 3, none⟩))) (by kernel_rfl) rfl (by kernel_rfl) (fun _ _ _ h => h) (Or.inl ⟨rfl, fun W hW => by go_simp⟩) (Two.refl _ _ _) ?_
  refine wpAnyT_take 1 9 (v := (.string row)) (by kernel_rfl) rfl (by kernel_rfl) (fun _ _ _ h => h) (Or.inl ⟨rfl, fun W hW => by have := cc W hW 3; go_simp⟩) (Two.refl _ _ _) ?_
  refine wpAnyT_take 1 12 (v := (.pointer (some ⟨b, 0, none⟩))) (by kernel_rfl) rfl (by kernel_rfl) (fun _ _ _ h => h) (Or.inl ⟨rfl, fun W hW => by go_simp⟩) (Two.refl _ _ _) ?_
  refine wpAnyT_take 1 13 (v := (.pointer (some ⟨b, 0, none⟩))) (by kernel_rfl) rfl (by kernel_rfl) (fun _ _ _ h => h) (Or.inl ⟨rfl, fun W hW => by go_simp⟩) (Two.refl _ _ _) ?_
  refine wpAnyT_take 1 14 (v := (.pointer (some ⟨b, 2, none⟩))) (by kernel_rfl) rfl (by kernel_rfl) (fun _ _ _ h => h) (Or.inl ⟨rfl, fun W hW => by go_simp⟩) (Two.refl _ _ _) ?_
  refine wpAnyT_take 1 15 (v := v2) (by kernel_rfl) rfl (by kernel_rfl) (fun _ _ _ h => h) (Or.inl ⟨rfl, fun W hW => by have := cc W hW 2; go_simp⟩) (Two.refl _ _ _) ?_
  refine wpAnyT_take 1 16 (v := (.int .i64 n)) (by kernel_rfl) rfl (by kernel_rfl) (fun _ _ _ h => h) (Or.inl ⟨rfl, fun W hW => by go_simp⟩) (Two.refl _ _ _) ?_
  refine two_appends (i1 := 10) (i2 := 11) (i3 := 17) (i4 := 18) (s1 := 9) (x1 := 13) (d1 := 14) (e1 := 15) (s2 := 19) (x2 := 20) (d2 := 21) (e2 := 22) (T1 := 22) (E1 := 9) (T2 := 69) (E2 := 3) (y1 := .string row) (y2 := .int .i64 n) (b1 := 16) (b2 := 8)
    (v1 := v1) (v2 := v2) ⟨rfl, rfl, rfl, rfl, rfl, rfl, rfl, rfl, Tryz.underlying22, ha, ha0, ha1, ha2, rfl⟩ ⟨rfl, rfl, rfl, rfl, rfl, rfl, rfl, rfl, Tryz.underlying69, hb, hb0, hb1, hb2, rfl⟩ (by decide) ?ord (by decide) ?hlt ?q1 ?q2 ?q3 ?q4 ⟨rfl, rfl⟩ ⟨rfl, rfl⟩ o1 o2 (by simp; omega) (by unfold maxLen; omega) (by unfold maxLen; omega) (by omega) (by omega) ?_
  case ord => kernel_rfl
  case hlt => exact ⟨by simp [Act.put], by simp [Act.put]⟩
  case q1 => simp [Act.eval, Act.put]
  case q2 => simp [Act.eval, Act.put]
  case q3 => simp [Act.eval, Act.put]
  case q4 => simp [Act.eval, Act.put]
  intro u1 u2 v1' v2' w' hT g1 g2 f1 f2
  have hk' := kk w' hT
  have c' := cc w' hT
  have z' : ∀ j, w'.frozen? ⟨b, j, none⟩ = false := fun j => by simp [World.frozen?, hk']
  clear kk cc
  obtain ⟨p1, q1, rfl⟩ := own_form g1
  obtain ⟨p2, q2, rfl⟩ := own_form g2
  have G := Lib.hid (And.intro g1 g2)
  clear g1 g2 f1 f2
  simp only [List.drop_succ_cons, List.drop_zero]
  go_wp2
  go_end0
  exact ⟨rfl, rw_set (rows := rows ++ [row]) (nums := nums ++ [n]) (l := []) (two_below hT o1 o2 (by omega)) hBb hk' (by rw [List.length_append, List.map_append]; exact G.out.1) (by rw [List.length_append, List.map_append]; exact G.out.2)⟩

theorem rw_put {w : World} {B b : Nat} {wide : Int} {rows : List ByteArray} {nums : List Int} {l : List UInt8} (h : RW w B b wide (rows, nums, l)) (t : List UInt8) :
    Below B w (w.setCell ⟨b, 3, none⟩ (.string ⟨t.toArray⟩)) ∧ RW (w.setCell ⟨b, 3, none⟩ (.string ⟨t.toArray⟩)) B b wide (rows, nums, t) := by
  obtain ⟨hBb, v1, v2, hk, g1, g2⟩ := h
  have n1 := fun e => buf_ne g1 hk (by decide) (Eq.symm e)
  have n2 := fun e => buf_ne g2 hk (by decide) (Eq.symm e)
  refine ⟨(Below.refl B w).setCell hBb _, hBb, v1, v2, ?_, ownsRow_setCell_other g1 n1 _, ownsRow_setCell_other g2 n2 _⟩
  rw [heap_setCell_same _ _ _ _ _ _ hk]
  rfl
theorem rw_cells {w : World} {B b : Nat} {wide : Int} {x : List ByteArray × List Int × List UInt8} (h : RW w B b wide x) :
    ∃ v1 v2, (∀ j, w.cell? ⟨b, j, none⟩ = #[Value.int .i64 wide, v1, v2, Value.string ⟨x.2.2.toArray⟩][j]?) ∧ (∀ j, w.frozen? ⟨b, j, none⟩ = false) := by
  obtain ⟨hBb, v1, v2, hk, g1, g2⟩ := h
  exact ⟨v1, v2, fun j => by simp [World.cell?, hk], fun j => by simp [World.frozen?, hk]⟩

set_option maxRecDepth 100000 in
set_option maxHeartbeats 800000 in
theorem put_any (w : World) (B b : Nat) (wide n : Int) (x : List ByteArray × List Int × List UInt8) (s : List UInt8) (h : RW w B b wide x) (h1 : x.1.length ≤ 4000000000000) (h2 : x.2.1.length ≤ 4000000000000) (h3 : x.2.2.length ≤ 1000) (h4 : s.length ≤ 1000) :
    Calls Tryz.prog 185 #[.pointer (some ⟨b, 0, none⟩), .string ⟨s.toArray⟩, .int .i64 n] w fun e w' => e = .returned (.tuple #[]) ∧ Below B w w' ∧ RW w' B b wide (putR wide n s x) := by
  have hC := Lib.hid (fun W (hW : RW W B b wide x) => close_any W B b wide n x hW h1 h2)
  obtain ⟨rows, nums, row0⟩ := x
  have h0 := Lib.hid h
  obtain ⟨v1, v2, cc, zz⟩ := rw_cells h
  clear h
  dsimp only at *
  by_cases hgt : wide < (row0.length : Int) + s.length
  · have hput : putR wide n s (rows, nums, row0) = (rows ++ [⟨row0.toArray⟩], nums ++ [n], s) := by unfold putR; rw [if_pos hgt]
    rw [hput]
    go_enter Tryz.func185, Tryz.ntmps185
    go_wp2_with fail
    go_quiet (fail)
    go_wp2_with fail
    refine (hC.out _ (by exact h0.out)).mono ?_
    rintro e w1 ⟨rfl, hb1, hw1⟩
    clear cc zz hC h0
    have hw1' := Lib.hid hw1
    obtain ⟨u1, u2, cc, zz⟩ := rw_cells hw1
    clear hw1
    dsimp only at cc
    go_wp2_with fail
    go_end0
    obtain ⟨p1, p2⟩ := rw_put hw1'.out ([] ++ s)
    exact ⟨rfl, ((below_drewN (Below.refl _ _) _).trans hb1).trans p1, p2⟩
  · have hput : putR wide n s (rows, nums, row0) = (rows, nums, row0 ++ s) := by unfold putR; rw [if_neg hgt]
    rw [hput]
    go_enter Tryz.func185, Tryz.ntmps185
    go_wp2_with fail
    go_quiet (fail)
    go_wp2_with fail
    go_end0
    rw [show (⟨row0.toArray⟩ : ByteArray) ++ ⟨s.toArray⟩ = ⟨(row0 ++ s).toArray⟩ from ByteArray.mk_append_mk row0 s]
    obtain ⟨p1, p2⟩ := rw_put (w := w.drewN nq) h0.out (row0 ++ s)
    exact ⟨rfl, (below_drewN (Below.refl _ _) _).trans p1, p2⟩

end Go.Proofs.YtokmiommhfbkeaaGreatDoor
