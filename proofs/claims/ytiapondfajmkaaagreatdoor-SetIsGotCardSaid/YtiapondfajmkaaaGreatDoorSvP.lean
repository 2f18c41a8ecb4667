/- Rows of wide elements: copy, clear, what a row owns behind them. -/
import Derived.Test.YtiapondfajmkaaaGreatDoorSvN
import Derived.Laws.IdiomCopy
import Derived.Laws.OwnMore
import Derived.Lib.AppendZerosOnto
import Derived.Lib.Overlaps
import Derived.Laws.Externs
namespace Go.Proofs.YtiapondfajmkaaaGreatDoor
open Go.RowKit

section
variable {P : Program}
theorem run_copy_wide (w : World) (dT sT ty elem : TypeId) (sz b o dLen dCap : Nat) (a : Addr) (sLen sCap : Nat) (cs : List Value)
    (hu : P.underlying dT = some (.slice elem)) (hs : (P.info? elem).map (·.size) = some sz) (hn : cs.length = Nat.min sLen dLen * sz)
    (hsrc : ∀ j v, cs[j]? = some v → w.cell? (a.add j) = some v) (hc : ∀ j, j < cs.length → (w.cell? ⟨b, o + j, none⟩).isSome = true) (hf : ∀ j, j < cs.length → w.frozen? ⟨b, o + j, none⟩ = false) (h1 : ∀ v ∈ cs, v.oneCell' = true) :
    (Builtin.copy_ #[dT, sT] ty #[.slice (some ⟨b, o, none⟩) dLen dCap, .slice (some a) sLen sCap]).run P w = .ok (goInt (Nat.min sLen dLen)) (w.setCells b o cs) := by
  have hl := run_loadCells_list (P := P) w a cs hsrc
  have hst := run_storeCells_cells (P := P) b o cs 0 w (by simpa using hc) (by simpa using hf) h1
  cases hq : P.info? elem with
  | none => simp [hq] at hs
  | some i =>
    have hi : i.size = sz := by simpa [hq] using hs
    rw [← hi] at hn
    simp [Builtin.copy_, run_underlying hu, Builtin.lenOf, Builtin.firstCells, sizeOf, typeInfo, hq, ← hn, hl, hst]
theorem wp_copy_eq (w : World) {o : Oper} {a : Act} {K : Act → World → Prop} {Q : Exit → Act → World → Prop} (d x : Operand) (t u : TypeId)
    (ho : o.op = .call { callee := .builtin .copy, args := #[d, x], argTypes := #[t, u] }) (dv xv : Value) (hd : a.eval d = dv) (hx : a.eval x = xv) {r : Value} {w' : World}
    (hr : (Builtin.copy_ #[t, u] o.type #[dv, xv]).run P w = .ok r w') (h : K (a.put o.dst r) w') : o.wp P a w K Q := by
  unfold Oper.wp
  simp only [execOp, ho, resolve, invoke, builtin, Sem.run_bind, Sem.run_pure, Result.andThen_ok, List.map_toArray, List.map_cons, List.map_nil, hd, hx, hr]
  exact h
theorem wpList_copy_eq (w : World) {ops : Array Oper} {rest : List Oper} {o : Oper} {a : Act} {Q : Exit → Act → World → Prop} (hg : o.guard = none) (d x : Operand) (t u : TypeId)
    (ho : o.op = .call { callee := .builtin .copy, args := #[d, x], argTypes := #[t, u] }) (dv xv : Value) (hd : a.eval d = dv) (hx : a.eval x = xv) {r : Value} {w' : World}
    (hr : (Builtin.copy_ #[t, u] o.type #[dv, xv]).run P w = .ok r w') (h : wpList P ops Q rest (a.put o.dst r) w') : wpList P ops Q (o :: rest) a w :=
  wpList_plain hg fun _ hK => wp_copy_eq w d x t u ho dv xv hd hx hr (hK _ _ h)
theorem wpList_clear_eq (w : World) {ops : Array Oper} {rest : List Oper} {o : Oper} {a : Act} {Q : Exit → Act → World → Prop} (hg : o.guard = none) (d : Operand) (t : TypeId)
    (ho : o.op = .call { callee := .builtin .clear, args := #[d], argTypes := #[t] }) (dv : Value) (hd : a.eval d = dv) {r : Value} {w' : World}
    (hr : (Builtin.clear_ #[t] o.type #[dv]).run P w = .ok r w') (h : wpList P ops Q rest (a.put o.dst r) w') : wpList P ops Q (o :: rest) a w :=
  wpList_plain hg fun _ hK => by
    unfold Oper.wp
    simp only [execOp, ho, resolve, invoke, builtin, Sem.run_bind, Sem.run_pure, Result.andThen_ok, List.map_toArray, List.map_cons, List.map_nil, hd, hr]
    exact hK _ _ h
theorem run_clear_wide (w : World) (t e ty : TypeId) (z : Value) (ht : P.underlying t = some (.slice e)) (hv : ∀ w, (zeroValue e).run P w = .ok z w) (b o n c : Nat) (hn : 0 < n) (h1 : ∀ v ∈ (Builtin.zeroCells z.cells n).toList, v.oneCell' = true)
    (hc : ∀ j, j < n * z.cells.size → (w.cell? ⟨b, o + j, none⟩).isSome = true) (hf : ∀ j, j < n * z.cells.size → w.frozen? ⟨b, o + j, none⟩ = false) :
    (Builtin.clear_ #[t] ty #[.slice (some ⟨b, o, none⟩) n c]).run P w = .ok (.tuple #[]) (w.setCells b o (Builtin.zeroCells z.cells n).toList) := by
  have hsz : (Builtin.zeroCells z.cells n).toList.length = n * z.cells.size := by simp [Builtin.zeroCells]
  have hst := run_storeCells_cells (P := P) b o (Builtin.zeroCells z.cells n).toList 0 w (by rw [hsz]; simpa using hc) (by rw [hsz]; simpa using hf) h1
  obtain ⟨m, rfl⟩ : ∃ m, n = m + 1 := ⟨n - 1, by omega⟩
  simp [Builtin.clear_, run_underlying ht, hv, hst]
end
theorem setCells_drew (b : Nat) : ∀ (vs : List Value) (o : Nat) (w : World), w.drew.setCells b o vs = (w.setCells b o vs).drew
  | [], _, _ => rfl
  | v :: r, o, w => by rw [World.setCells, World.setCells, ← setCells_drew b r]; rfl
/-- cells are stored one behind the other -/
def setL (xs : List Value) : Nat → List Value → List Value
  | _, [] => xs
  | o, v :: r => setL (xs.set o v) (o + 1) r
theorem setL_len : ∀ (vs : List Value) (xs : List Value) (o : Nat), (setL xs o vs).length = xs.length
  | [], _, _ => rfl
  | v :: r, xs, o => by rw [setL, setL_len r, List.length_set]
theorem setL_eq : ∀ (vs : List Value) (xs : List Value) (o : Nat), o + vs.length ≤ xs.length → setL xs o vs = xs.take o ++ vs ++ xs.drop (o + vs.length)
  | [], xs, o, _ => by simp [setL]
  | v :: r, xs, o, h => by
    rw [List.length_cons] at h
    rw [setL, setL_eq r (xs.set o v) (o + 1) (by rw [List.length_set]; omega)]
    have e1 : (xs.set o v).take (o + 1) = xs.take o ++ [v] := by
      rw [List.take_succ_eq_append_getElem (by rw [List.length_set]; omega), List.getElem_set_self, List.take_set_of_le (Nat.le_refl _)]
    have e2 : (xs.set o v).drop (o + 1 + r.length) = xs.drop (o + (v :: r).length) := by
      rw [List.drop_set_of_lt (by omega), List.length_cons]
      congr 1
      omega
    rw [e1, e2]
    simp
theorem own_setCells {B sz n g c : Nat} {T : TypeId} : ∀ (vs : List Value) {w : World} {xs : List Value} (o : Nat), w.ownsRow B T sz (.slice (some ⟨g, 0, none⟩) n c) n xs → (w.setCells g o vs).ownsRow B T sz (.slice (some ⟨g, 0, none⟩) n c) n (setL xs o vs) ∧ w.grownBy (w.setCells g o vs) (some g)
  | [], w, xs, o, h => ⟨h, ⟨rfl, rfl, rfl, Nat.le_refl _, fun _ _ _ => rfl⟩⟩
  | v :: r, w, xs, o, h => by
    obtain ⟨h1, h2⟩ := h.stored o v
    obtain ⟨h3, h4⟩ := own_setCells r (o + 1) h1
    refine ⟨h3, ⟨h4.os.trans h2.os, h4.tape.trans h2.tape, h4.output.trans h2.output, Nat.le_trans h2.size h4.size, fun k hk hne => (h4.block k (Nat.lt_of_lt_of_le hk h2.size) hne).trans (h2.block k hk hne)⟩⟩
theorem own_cut {w : World} {B sz n g c : Nat} {T : TypeId} {xs : List Value} (h : w.ownsRow B T sz (.slice (some ⟨g, 0, none⟩) n c) n xs) (i : Nat) (hi : i ≤ n) : w.ownsRow B T sz (.slice (some ⟨g, 0, none⟩) i c) i (xs.take (i * sz)) := by
  have hm : i * sz ≤ n * sz := Nat.mul_le_mul_right _ hi
  refine ⟨by rw [List.length_take, h.1, Nat.min_eq_left hm], ?_⟩
  rcases h.2 with ⟨e, _⟩ | ⟨g', c', cur, e, hb, hg, hn, hcm, hcs, ht⟩
  · cases e
  · injection e with e1 e2 e3
    injection e1 with e1
    injection e1 with e1 _ _
    subst e1 e3
    exact .inr ⟨g, c, cur, rfl, hb, hg, Nat.le_trans hi hn, hcm, hcs, by rw [← ht, List.take_take, Nat.min_eq_left hm]⟩
theorem own_ext {w : World} {B sz n g c : Nat} {T : TypeId} {xs : List Value} (h : w.ownsRow B T sz (.slice (some ⟨g, 0, none⟩) n c) n xs) (m : Nat) (hm : n + m ≤ c) : ∃ ys, ys.length = m * sz ∧ w.ownsRow B T sz (.slice (some ⟨g, 0, none⟩) (n + m) c) (n + m) (xs ++ ys) := by
  rcases h.2 with ⟨e, _⟩ | ⟨g', c', cur, e, hb, hg, hn, hcm, hcs, ht⟩
  · cases e
  · injection e with e1 e2 e3
    injection e1 with e1
    injection e1 with e1 _ _
    subst e1 e3
    have hl : (n + m) * sz ≤ cur.toList.length := by rw [Array.length_toList, hcs]; exact Nat.mul_le_mul_right _ hm
    have hsplit : cur.toList.take ((n + m) * sz) = xs ++ (cur.toList.drop (n * sz)).take (m * sz) := by
      rw [Nat.add_mul, List.take_add, ht]
    refine ⟨(cur.toList.drop (n * sz)).take (m * sz), ?_, ?_, .inr ⟨g, c, cur, rfl, hb, hg, hm, hcm, hcs, hsplit⟩⟩
    · rw [List.length_take, List.length_drop]
      rw [Nat.add_mul] at hl
      omega
    · rw [← hsplit, List.length_take, Nat.min_eq_left hl]
/-- a row that was just made -/
theorem own_new (w : World) (B sz n c : Nat) (T : TypeId) (cur : Array Value) (hB : B ≤ w.heap.size) (hn : n ≤ c) (hc : c ≤ maxLen) (hs : cur.size = c * sz) : (w.alloc (.cells cur T)).ownsRow B T sz (.slice (some ⟨w.heap.size, 0, none⟩) n c) n (cur.toList.take (n * sz)) :=
  ⟨by rw [List.length_take, Array.length_toList, hs, Nat.min_eq_left (Nat.mul_le_mul_right _ hn)], .inr ⟨w.heap.size, c, cur, rfl, hB, heap_alloc_new w _, hn, hc, hs, rfl⟩⟩
theorem own_drew {w : World} {B sz n : Nat} {T : TypeId} {v : Value} {xs : List Value} (h : w.ownsRow B T sz v n xs) : w.drew.ownsRow B T sz v n xs := own_keep h (Below.refl _ _).drew
/-- an element is put in its place -/
theorem prV_ins (P : List VE) (i : Nat) (x : VE) : prV (P.take i ++ x :: P.drop i) = (prV P).take (i * 6) ++ cellsV x ++ (prV P).drop (i * 6) := by
  have h1 : ∀ (P : List VE) (i : Nat), (prV P).take (i * 6) = prV (P.take i) ∧ (prV P).drop (i * 6) = prV (P.drop i) := fun P => by
    induction P with
    | nil => intro i; simp [prV]
    | cons b r ih =>
      intro i
      cases i with
      | zero => simp [prV]
      | succ i =>
        obtain ⟨i1, i2⟩ := ih i
        have e : prV (b :: r) = cellsV b ++ prV r := rfl
        have hl : (cellsV b).length = 6 := rfl
        rw [e, show (i + 1) * 6 = (cellsV b).length + i * 6 by rw [hl]; omega, List.take_length_add_append, List.drop_length_add_append, i1, i2]
        exact ⟨rfl, rfl⟩
  obtain ⟨a, b⟩ := h1 P i
  rw [a, b, prV_app]
  simp [prV]
end Go.Proofs.YtiapondfajmkaaaGreatDoor
