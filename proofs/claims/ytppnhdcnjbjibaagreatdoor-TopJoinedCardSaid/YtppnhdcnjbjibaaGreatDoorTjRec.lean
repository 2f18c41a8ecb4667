/- TopJoined: the records of a text; whether they are in order; groups. -/
import Derived.Test.YtppnhdcnjbjibaaGreatDoorTjAlt
import Derived.Test.YtppnhdcnjbjibaaGreatDoorGsMem
namespace Go.Proofs.YtppnhdcnjbjibaaGreatDoor
open Go.RowKit

/-- a row, and the block of its fields -/
abbrev RP := R3 × Nat
def fldV (fb : Nat) : Value := .slice (some ⟨fb, 0, none⟩) 3 3
def FieldsAt (w : World) (p : RP) : Prop := w.heap[p.2]? = some (.cells #[.string p.1.1, .string p.1.2.1, .string p.1.2.2] 9 (0, 0))
theorem FieldsAt.keep {w w' : World} {p : RP} (h : FieldsAt w p) (hb : Below w.heap.size w w') : FieldsAt w' p := (hb.block p.2 (Array.getElem?_eq_some_iff.1 h).1).trans h
def recC (P : List RP) : List Value := P.flatMap fun p => [fldV p.2, .string p.1.1]
theorem recC_len (P : List RP) : (recC P).length = P.length * 2 := by
  induction P with
  | nil => rfl
  | cons b r ih => simp only [recC, List.flatMap_cons, List.length_append, List.length_cons, List.length_nil] at *; omega
theorem recC_at : ∀ (P : List RP) (j : Nat) (h : j < P.length), (recC P)[j * 2]? = some (fldV P[j].2) ∧ (recC P)[j * 2 + 1]? = some (.string P[j].1.1)
  | [], _, h => by simp at h
  | p :: P, 0, _ => ⟨rfl, rfl⟩
  | p :: P, j + 1, h => by
    have ih := recC_at P j (by simpa using h)
    have e : recC (p :: P) = fldV p.2 :: .string p.1.1 :: recC P := rfl
    rw [e, show (j + 1) * 2 = j * 2 + 1 + 1 by omega, List.getElem?_cons_succ, List.getElem?_cons_succ, List.getElem?_cons_succ, List.getElem?_cons_succ]
    exact ih
theorem recInfo : (Tryz.prog.info? 74).map (fun i => (i.zero, i.size, i.bytes)) = some (some (.agg #[.slice none 0 0, .string ByteArray.empty]), 2, 40) := by kernel_rfl
/-- the records that are listed -/
structure RecO (B : Nat) (v : Value) (P : List RP) (w : World) : Prop where
  own : w.ownsRow B 74 2 v P.length (recC P)
  flds : ∀ p ∈ P, FieldsAt w p
theorem RecO.keep {B : Nat} {v : Value} {P : List RP} {w w' : World} (h : RecO B v P w) (hb : Below w.heap.size w w') : RecO B v P w' :=
  ⟨h.own.kept (row := none) ⟨hb.os, hb.tape, hb.output, hb.size, fun k hk _ => hb.block k hk⟩ (by cases v.ownBlock <;> simp), fun p hp => (h.flds p hp).keep hb⟩
theorem RecO.nil (B : Nat) (w : World) : RecO B (.slice none 0 0) [] w := ⟨World.ownsRow_nil _ _ _ _, fun p hp => absurd hp (by simp)⟩
theorem RecO.form {B : Nat} {v : Value} {P : List RP} {w : World} (h : RecO B v P w) : ∃ A c, v = .slice A P.length c := own_form h.own
theorem app_rec {ops : Array Oper} {rest : List Oper} {o : Oper} {a : Act} {Q : Exit → Act → World → Prop} {w : World} (hgd : o.guard = none) (s x : Operand)
    (ho : o.op = .call { callee := .builtin .append, args := #[s, x], argTypes := #[67, 67] })
    (B : Nat) (v : Value) (P : List RP) (hown : RecO B v P w) (hs : a.eval s = v) (p : RP) (hp : FieldsAt w p) (hx : a.eval x = .slice (some ⟨w.heap.size, 0, none⟩) 1 1)
    (hL : P.length ≤ 20000) (hbase : B ≤ w.heap.size)
    (h : ∀ A c w', RecO B (.slice A (P.length + 1) c) (P ++ [p]) w' → Below B w w' → wpList Tryz.prog ops Q rest (a.put o.dst (.slice A (P.length + 1) c)) w') : wpList Tryz.prog ops Q (o :: rest) a (w.alloc (.cells #[fldV p.2, .string p.1.1] 74)) := by
  obtain ⟨i0, hi, hz0, hz1, hz2⟩ := info_parts recInfo
  have hO : (w.alloc (.cells #[fldV p.2, .string p.1.1] 74)).ownsRow B 74 2 v P.length (recC P) := World.ownsRow.alloc hown.own _
  refine wpList_append_own _ hgd s x 67 ho B 74 i0 (.agg #[.slice none 0 0, .string ByteArray.empty]) 2 40 Tryz.underlying67 hi hz0 hz1 hz2 rfl (by decide) v P.length (recC P) hs hO ⟨w.heap.size, 0, none⟩ 1 1 [fldV p.2, .string p.1.1] hx rfl (new_row w [fldV p.2, .string p.1.1] 74) (fun u' hu' => by simp at hu'; rcases hu' with rfl | rfl <;> rfl) (by unfold maxLen; omega) (by omega) (by simp; omega) ?_
  intro v' w' g1 g2 _
  obtain ⟨A, c, rfl⟩ := own_form g1
  have kp : ∀ q, FieldsAt w q → FieldsAt w' q := fun q hq => by
    have hlt : q.2 < w.heap.size := (Array.getElem?_eq_some_iff.1 hq).1
    have hb2 := (Below.heap_alloc w (.cells #[fldV p.2, .string p.1.1] 74) _ hlt).trans hq
    refine (g2.block q.2 (by simp; omega) (fun e => ?_)).trans hb2
    obtain ⟨gb, cap, cur, hv, _, hh, _⟩ := (hO.2.resolve_left (fun h0 => by rw [h0.1] at e; cases e))
    rw [hv] at e
    have : q.2 = gb := by injection e
    rw [← this, hb2] at hh
    injection hh with hh
    injection hh with _ hh _
    exact absurd hh (by decide)
  have e : recC (P ++ [p]) = recC P ++ [fldV p.2, .string p.1.1] := by simp [recC]
  refine h A c w' ⟨by rw [e, List.length_append]; exact g1, fun q hq => ?_⟩ (((Below.refl B w).alloc hbase _).grown g2 (by simp; omega) (fun g hg => (World.ownsRow.lt hO g hg).1))
  rcases List.mem_append.1 hq with hq | hq
  · exact kp q (hown.flds q hq)
  · simp at hq
    subst hq
    exact kp _ hp
/-- records to be read -/
def RV (w : World) (v : Value) (P : List RP) : Prop :=
  (∃ A c, v = .slice A P.length c ∧ P.length ≤ c ∧ (0 < P.length → ∃ b off, A = some ⟨b, off, none⟩ ∧ b < w.heap.size ∧ ∀ j (h : j < P.length), w.cell? ⟨b, off + j * 2, none⟩ = some (fldV P[j].2) ∧ w.cell? ⟨b, off + j * 2 + 1, none⟩ = some (.string P[j].1.1))) ∧ ∀ p ∈ P, FieldsAt w p
theorem RV.keep {w w' : World} {v : Value} {P : List RP} (h : RV w v P) (hb : Below w.heap.size w w') : RV w' v P := by
  obtain ⟨⟨A, c, rfl, hc, h1⟩, h2⟩ := h
  refine ⟨⟨A, c, rfl, hc, fun h0 => ?_⟩, fun p hp => (h2 p hp).keep hb⟩
  obtain ⟨b, off, rfl, hlt, hcell⟩ := h1 h0
  exact ⟨b, off, rfl, Nat.lt_of_lt_of_le hlt hb.size, fun j hj => ⟨(hb.cell (p := ⟨b, off + j * 2, none⟩) hlt).trans (hcell j hj).1, (hb.cell (p := ⟨b, off + j * 2 + 1, none⟩) hlt).trans (hcell j hj).2⟩⟩
theorem RecO.rv {B : Nat} {v : Value} {P : List RP} {w : World} (h : RecO B v P w) : RV w v P := by
  refine ⟨?_, h.flds⟩
  rcases h.own.2 with ⟨rfl, h0⟩ | ⟨g, cap, cur, rfl, _, hh, hcap, _, _, ht⟩
  · exact ⟨none, 0, by rw [h0], by omega, fun hp => by omega⟩
  · refine ⟨_, cap, rfl, hcap, fun hp => ⟨g, 0, rfl, (h.own.lt g rfl).2, fun j hj => ?_⟩⟩
    have h1 := h.own.cells (g := g) rfl (j * 2) _ (recC_at P j hj).1
    have h2 := h.own.cells (g := g) rfl (j * 2 + 1) _ (recC_at P j hj).2
    rw [WideShapes.add_plain] at h1 h2
    exact ⟨h1, by rw [Nat.add_assoc]; exact h2⟩
theorem RV.len {w : World} {A : Option Addr} {n c : Nat} {P : List RP} (h : RV w (.slice A n c) P) : n = P.length := by
  obtain ⟨⟨_, _, e, _⟩, _⟩ := h; injection e
theorem RV.form {w : World} {v : Value} {P : List RP} (h : RV w v P) : ∃ A c, v = .slice A P.length c := by
  obtain ⟨⟨A, c, e, _⟩, _⟩ := h
  exact ⟨A, c, e⟩
theorem RV.cap {w : World} {A : Option Addr} {n c : Nat} {P : List RP} (h : RV w (.slice A n c) P) : n ≤ c := by
  obtain ⟨⟨A', c', e, hc, _⟩, _⟩ := h
  injection e with _ e2 e3
  omega
theorem RV.cut {w : World} {A : Option Addr} {n c k : Nat} {P : List RP} (h : RV w (.slice A n c) P) (hk : k ≤ n) : RV w (.slice (if c = k then A else Option.map (fun x => x.add (k * 2)) A) (n - k) (c - k)) (P.drop k) := by
  have hn := h.len
  subst hn
  obtain ⟨⟨A', c', e, hcap, h1⟩, h2⟩ := h
  injection e with e1 e2 e3
  subst e1; subst e3
  refine ⟨⟨_, c - k, by rw [List.length_drop], by rw [List.length_drop]; omega, fun hn => ?_⟩, fun p hp => h2 p (List.mem_of_mem_drop hp)⟩
  rw [List.length_drop] at hn
  obtain ⟨b, off, rfl, hlt, hcell⟩ := h1 (by omega)
  refine ⟨b, off + k * 2, by rw [if_neg (by omega), Option.map_some, WideShapes.add_plain], hlt, fun j hj => ?_⟩
  rw [List.length_drop] at hj
  have := hcell (k + j) (by omega)
  rw [List.getElem_drop, show off + k * 2 + j * 2 = off + (k + j) * 2 by omega]
  exact this
theorem RV.at {w : World} {v : Value} {P : List RP} (h : RV w v P) (j : Nat) (hj : j < P.length) :
    ∃ b off c, v = .slice (some ⟨b, off, none⟩) P.length c ∧ b < w.heap.size ∧ w.cell? ⟨b, off + j * 2, none⟩ = some (fldV P[j].2) ∧ w.cell? ⟨b, off + j * 2 + 1, none⟩ = some (.string P[j].1.1) := by
  obtain ⟨⟨A, c, rfl, hcap, h1⟩, _⟩ := h
  obtain ⟨b, off, rfl, hlt, hcell⟩ := h1 (by omega)
  exact ⟨b, off, c, rfl, hlt, (hcell j hj).1, (hcell j hj).2⟩

theorem cb_neg : ∀ a b : List UInt8, Lib.compareBytes a b < 0 ↔ Op.bytesLess a b = true
  | [], [] => by simp [Lib.compareBytes, Op.bytesLess]
  | [], _ :: _ => by simp [Lib.compareBytes, Op.bytesLess]
  | _ :: _, [] => by simp [Lib.compareBytes, Op.bytesLess]
  | x :: a, y :: b => by
    have ih := cb_neg a b
    unfold Lib.compareBytes Op.bytesLess
    by_cases h1 : x < y
    · simp [h1]
    · by_cases h2 : y < x
      · have hne : x ≠ y := fun e => by subst e; exact h1 h2
        simp [h1, h2, hne]
      · have he : x = y := UInt8.toNat_inj.1 (by rw [UInt8.lt_iff_toNat_lt] at h1 h2; omega)
        subst he
        simp only [h1, if_false, decide_false, Bool.false_or, beq_self_eq_true, Bool.true_and]
        exact ih

set_option maxRecDepth 100000 in
set_option maxHeartbeats 1600000 in
theorem recCmp_any (p q : RP) (w : World) :
    Calls Tryz.prog 60 #[.agg #[fldV p.2, .string p.1.1], .agg #[fldV q.2, .string q.1.1]] w fun e w' => e = .returned (.int .i64 (Lib.compareBytes (bl p.1.1) (bl q.1.1))) ∧ Below w.heap.size w w' := by
  obtain ⟨x, hx⟩ : ∃ x, x = w.heap.size := ⟨_, rfl⟩
  obtain ⟨y, hy⟩ : ∃ y, y = w.heap.size + 1 := ⟨_, rfl⟩
  obtain ⟨W0, hW0⟩ : ∃ W0, W0 = (w.alloc (.cells #[fldV p.2, .string p.1.1] 74)).alloc (.cells #[fldV q.2, .string q.1.1] 74) := ⟨_, rfl⟩
  have HB0 : Hid (Below w.heap.size w W0) := Lib.hid (by rw [hW0]; exact ((Below.refl _ w).alloc (Nat.le_refl _) _).alloc (by simp) _)
  have h1 : W0.heap[x]? = some (.cells #[fldV p.2, .string p.1.1] 74 (0, 0)) := by
    rw [hW0, hx]
    exact (Below.heap_alloc _ _ _ (by simp)).trans (heap_alloc_new w _)
  have h2 : W0.heap[y]? = some (.cells #[fldV q.2, .string q.1.1] 74 (0, 0)) := by
    have h := heap_alloc_new (w.alloc (.cells #[fldV p.2, .string p.1.1] 74)) (.cells #[fldV q.2, .string q.1.1] 74)
    rw [show (w.alloc (.cells #[fldV p.2, .string p.1.1] 74)).heap.size = w.heap.size + 1 by simp] at h
    rw [hW0, hy]
    exact h
  have x1 : W0.cell? ⟨x, 1, none⟩ = some (.string p.1.1) := by simp [World.cell?, h1]
  have y1 : W0.cell? ⟨y, 1, none⟩ = some (.string q.1.1) := by simp [World.cell?, h2]
  have HCP := Lib.hid (Tryz.strings_Compare p.1.1 q.1.1 W0)
  have HWE := Lib.hid hW0
  have HXE := Lib.hid hx
  have HYE := Lib.hid hy
  generalize Lib.compareBytes (bl p.1.1) (bl q.1.1) = cz at *
  unfold fldV at *
  clear hW0 hx hy h1 h2
  go_enter Tryz.func60, Tryz.ntmps60
  go_upto_region 1 with fail
  rw [← HYE.out, ← HXE.out, ← HWE.out]
  go_wp2_with fail
  refine HCP.out.mono ?_
  rintro e w1 ⟨rfl, rfl⟩
  go_wp2_with fail
  go_ret
  exact ⟨rfl, HB0.out⟩
end Go.Proofs.YtppnhdcnjbjibaaGreatDoor
