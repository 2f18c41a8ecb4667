/- Maps in memory whose entries lie in the order in which they came: looking up and laying in, for keys that are texts, numbers or pointers. No program in sight. -/
import Derived.MapKept
import Derived.LaidEqlPtr
import Derived.Lib.Hide
import Derived.RowKit
namespace Go.Proofs.YtclhdppepopgeaaGreatDoor
open Go.RowKit Go.MapKept

section
variable {P : Program}

/-- entries, one behind the other, stamped from a number on -/
def mEs : Nat → List (Value × Value) → List MapEntry
  | _, [] => []
  | i, p :: L => ⟨p.1, p.2, i⟩ :: mEs (i + 1) L
theorem mEs_len : ∀ (i : Nat) (L : List (Value × Value)), (mEs i L).length = L.length
  | _, [] => rfl
  | i, p :: L => by rw [mEs, List.length_cons, List.length_cons, mEs_len]
theorem mEs_snoc : ∀ (i : Nat) (L : List (Value × Value)) (p : Value × Value), mEs i (L ++ [p]) = mEs i L ++ [⟨p.1, p.2, i + L.length⟩]
  | i, [], p => rfl
  | i, q :: L, p => by
    rw [List.cons_append, mEs, mEs_snoc (i + 1) L p, mEs, List.length_cons, List.cons_append, show i + 1 + L.length = i + (L.length + 1) by omega]
/-- a map whose entries came in this order -/
def MapAt (w : World) (b : Nat) (L : List (Value × Value)) : Prop := w.heap[b]? = some (.map (mEs 0 L).toArray L.length)
theorem MapAt.lt {w : World} {b : Nat} {L : List (Value × Value)} (h : MapAt w b L) : b < w.heap.size := (Array.getElem?_eq_some_iff.1 h).1
theorem MapAt.keep {w w' : World} {b : Nat} {L : List (Value × Value)} (h : MapAt w b L) (hb : Below w.heap.size w w') : MapAt w' b L := (hb.block b h.lt).trans h
theorem MapAt.new (w : World) : MapAt (w.alloc (.map #[] 0)) w.heap.size [] := (heap_alloc w _).1
/-- a block is another object -/
def hset (w : World) (r : Nat) (o : Obj) : World := { w with heap := w.heap.setIfInBounds r o }
theorem hset_at {w : World} {r : Nat} {o o' : Obj} (h : w.heap[r]? = some o) : (hset w r o').heap[r]? = some o' := (heap_set h).1
theorem hset_other {w : World} {r k : Nat} {o' : Obj} (h : k ≠ r) : (hset w r o').heap[k]? = w.heap[k]? := by
  unfold hset
  exact Array.getElem?_setIfInBounds_ne (fun e => h e.symm)
theorem hset_size (w : World) (r : Nat) (o : Obj) : (hset w r o).heap.size = w.heap.size := by simp [hset]
theorem below_hset {B : Nat} {w0 w : World} (h : Below B w0 w) {r : Nat} (hr : B ≤ r) (o : Obj) : Below B w0 (hset w r o) :=
  ⟨h.os, h.tape, h.output, by rw [hset_size]; exact h.size, fun b hb => (hset_other (by omega)).trans (h.block b hb)⟩

/-- the keys' texts, as values -/
abbrev sL (L : List (ByteArray × Value)) : List (Value × Value) := L.map fun p => (.string p.1, p.2)
/-- what a text's entry is -/
def getS : List (ByteArray × Value) → ByteArray → Option Value
  | [], _ => none
  | p :: L, k => if p.1 = k then some p.2 else getS L k
theorem byte_beq' (a b : ByteArray) : (a == b) = decide (a = b) := by
  rw [Bool.eq_iff_iff, decide_eq_true_iff]
  constructor
  · intro h
    have h2 : (a.data == b.data) = true := h
    exact ByteArray.ext (eq_of_beq h2)
  · rintro rfl
    show (a.data == a.data) = true
    exact beq_self_eq_true _
theorem findS : ∀ (i : Nat) (L : List (ByteArray × Value)) (k : ByteArray), (getS L k = none → Instr.findNow .string (.string k) (mEs i (sL L)) i = some none) ∧
    (∀ v, getS L k = some v → ∃ j, Instr.findNow .string (.string k) (mEs i (sL L)) i = some (some (j, v)))
  | i, [], k => ⟨fun _ => rfl, fun v h => by cases h⟩
  | i, p :: L, k => by
    obtain ⟨h1, h2⟩ := findS (i + 1) L k
    have e : Instr.sameNow .string (.string k) (.string p.1) = some (decide (k = p.1)) := by
      show some (k == p.1) = _
      rw [byte_beq']
    by_cases hk : p.1 = k
    · have hd : decide (k = p.1) = true := decide_eq_true hk.symm
      refine ⟨fun h => ?_, fun v h => ⟨i, ?_⟩⟩
      · rw [getS, if_pos hk] at h; cases h
      · rw [getS, if_pos hk] at h
        injection h with h
        simp [mEs, Instr.findNow, e, hd, h]
    · have hd : decide (k = p.1) = false := decide_eq_false (fun e => hk e.symm)
      have hf : Instr.findNow .string (.string k) (mEs i (sL (p :: L))) i = Instr.findNow .string (.string k) (mEs (i + 1) (sL L)) (i + 1) := by
        simp [mEs, Instr.findNow, e, hd]
      rw [hf, getS, if_neg hk]
      exact ⟨h1, h2⟩
theorem lookup_s {T K E : TypeId} (hT : P.underlying T = some (.map K E)) (hK : P.underlying K = some .string) {z : Value} (hz : ∀ w, (zeroValue E).run P w = .ok z w)
    {w : World} {b : Nat} {L : List (ByteArray × Value)} (h : MapAt w b (sL L)) (k : ByteArray) :
    (Instr.lookup T (.map (some b)) (.string k) false).run P w = .ok ((getS L k).getD z) w := by
  obtain ⟨h1, h2⟩ := findS 0 L k
  cases hg : getS L k with
  | none =>
    simp [Instr.lookup, run_underlying hT, Go.MapKept.run_getObj_map h, run_checkKey hK (show IsKey .string (.string k) from trivial), run_findKey hK (h1 hg), hz w, Result.andThen]
  | some v =>
    obtain ⟨j, hj⟩ := h2 v hg
    simp [Instr.lookup, run_underlying hT, Go.MapKept.run_getObj_map h, run_checkKey hK (show IsKey .string (.string k) from trivial), run_findKey hK hj, Result.andThen]
/-- a new text -/
theorem put_s {T K E : TypeId} (hT : P.underlying T = some (.map K E)) (hK : P.underlying K = some .string)
    {w : World} {b : Nat} {L : List (ByteArray × Value)} (h : MapAt w b (sL L)) (k : ByteArray) (v : Value) (hk : getS L k = none) :
    ∃ w', (Instr.mapUpdate T (.map (some b)) (.string k) v).run P w = .ok () w' ∧ w' = hset w b (.map (mEs 0 (sL (L ++ [(k, v)]))).toArray (sL (L ++ [(k, v)])).length) := by
  refine ⟨_, ?_, rfl⟩
  have h1 := (findS 0 L k).1 hk
  have e : (mEs 0 (sL (L ++ [(k, v)]))).toArray = (mEs 0 (sL L)).toArray.push ⟨.string k, v, (sL L).length⟩ := by
    rw [sL, List.map_append, List.map_cons, List.map_nil, mEs_snoc, Nat.zero_add]
    simp
  have el : (sL (L ++ [(k, v)])).length = (sL L).length + 1 := by simp [sL]
  rw [e, el]
  unfold hset
  simp [Instr.mapUpdate, run_underlying hT, Go.MapKept.run_getObj_map h, run_checkKey hK (show IsKey .string (.string k) from trivial), run_findKey hK h1, run_setObj_map _ h, Result.andThen]
theorem MapAt.put {w : World} {b : Nat} {L L' : List (Value × Value)} (h : MapAt w b L) : MapAt (hset w b (.map (mEs 0 L').toArray L'.length)) b L' := hset_at h

/-- the keys' numbers, as values -/
abbrev iL (L : List (Int × Value)) : List (Value × Value) := L.map fun p => (.int .i64 p.1, p.2)
/-- what a number's entry is -/
def getI : List (Int × Value) → Int → Option Value
  | [], _ => none
  | p :: L, k => if p.1 = k then some p.2 else getI L k
theorem findI : ∀ (i : Nat) (L : List (Int × Value)) (k : Int), (getI L k = none → Instr.findNow (.int .i64) (.int .i64 k) (mEs i (iL L)) i = some none) ∧
    (∀ v, getI L k = some v → ∃ j, Instr.findNow (.int .i64) (.int .i64 k) (mEs i (iL L)) i = some (some (j, v)))
  | i, [], k => ⟨fun _ => rfl, fun v h => by cases h⟩
  | i, p :: L, k => by
    obtain ⟨h1, h2⟩ := findI (i + 1) L k
    have e : Instr.sameNow (.int .i64) (.int .i64 k) (.int .i64 p.1) = some (k == p.1) := by simp [Instr.sameNow]
    by_cases hk : p.1 = k
    · have hd : (k == p.1) = true := beq_iff_eq.2 hk.symm
      refine ⟨fun h => ?_, fun v h => ⟨i, ?_⟩⟩
      · rw [getI, if_pos hk] at h; cases h
      · rw [getI, if_pos hk] at h
        injection h with h
        simp [mEs, Instr.findNow, e, hd, h]
    · have hd : (k == p.1) = false := beq_eq_false_iff_ne.2 (fun e => hk e.symm)
      have hf : Instr.findNow (.int .i64) (.int .i64 k) (mEs i (iL (p :: L))) i = Instr.findNow (.int .i64) (.int .i64 k) (mEs (i + 1) (iL L)) (i + 1) := by
        simp [mEs, Instr.findNow, e, hd]
      rw [hf, getI, if_neg hk]
      exact ⟨h1, h2⟩
theorem lookup_i {T K E : TypeId} (hT : P.underlying T = some (.map K E)) (hK : P.underlying K = some (.int .i64)) {z : Value} (hz : ∀ w, (zeroValue E).run P w = .ok z w)
    {w : World} {b : Nat} {L : List (Int × Value)} (h : MapAt w b (iL L)) (k : Int) :
    (Instr.lookup T (.map (some b)) (.int .i64 k) false).run P w = .ok ((getI L k).getD z) w := by
  obtain ⟨h1, h2⟩ := findI 0 L k
  cases hg : getI L k with
  | none =>
    simp [Instr.lookup, run_underlying hT, Go.MapKept.run_getObj_map h, run_checkKey hK (show IsKey (.int .i64) (.int .i64 k) from rfl), run_findKey hK (h1 hg), hz w, Result.andThen]
  | some v =>
    obtain ⟨j, hj⟩ := h2 v hg
    simp [Instr.lookup, run_underlying hT, Go.MapKept.run_getObj_map h, run_checkKey hK (show IsKey (.int .i64) (.int .i64 k) from rfl), run_findKey hK hj, Result.andThen]
/-- a new number -/
theorem put_i {T K E : TypeId} (hT : P.underlying T = some (.map K E)) (hK : P.underlying K = some (.int .i64))
    {w : World} {b : Nat} {L : List (Int × Value)} (h : MapAt w b (iL L)) (k : Int) (v : Value) (hk : getI L k = none) :
    ∃ w', (Instr.mapUpdate T (.map (some b)) (.int .i64 k) v).run P w = .ok () w' ∧ w' = hset w b (.map (mEs 0 (iL (L ++ [(k, v)]))).toArray (iL (L ++ [(k, v)])).length) := by
  refine ⟨_, ?_, rfl⟩
  have h1 := (findI 0 L k).1 hk
  have e : (mEs 0 (iL (L ++ [(k, v)]))).toArray = (mEs 0 (iL L)).toArray.push ⟨.int .i64 k, v, (iL L).length⟩ := by
    rw [iL, List.map_append, List.map_cons, List.map_nil, mEs_snoc, Nat.zero_add]
    simp
  have el : (iL (L ++ [(k, v)])).length = (iL L).length + 1 := by simp [iL]
  rw [e, el]
  unfold hset
  simp [Instr.mapUpdate, run_underlying hT, Go.MapKept.run_getObj_map h, run_checkKey hK (show IsKey (.int .i64) (.int .i64 k) from rfl), run_findKey hK h1, run_setObj_map _ h, Result.andThen]

/-- the keys' blocks, as pointers -/
abbrev pL (L : List (Nat × Value)) : List (Value × Value) := L.map fun p => (.pointer (some ⟨p.1, 0, none⟩), p.2)
/-- what a block's entry is -/
def getP : List (Nat × Value) → Nat → Option Value
  | [], _ => none
  | p :: L, k => if p.1 = k then some p.2 else getP L k
/-- blocks of cells that are not frozen -/
def Cellar (w : World) (b : Nat) : Prop := ∃ cs T, w.heap[b]? = some (.cells cs T (0, 0))
theorem eq_ptr {K N : TypeId} {j : TypeInfo} (hK : P.underlying K = some (.pointer N)) (hN : P.info? N = some j) (hj : j.size ≠ 0) {w : World} {a b : Nat} (ha : Cellar w a) (hb : Cellar w b) :
    (Op.equal K (.pointer (some ⟨a, 0, none⟩)) (.pointer (some ⟨b, 0, none⟩))).run P w = .ok (decide (a = b)) w := by
  obtain ⟨ca, ta, ha⟩ := ha
  obtain ⟨cb, tb, hb⟩ := hb
  have h : ∀ d : Nat, (Op.equalIn (d + 1) K (.pointer (some ⟨a, 0, none⟩)) (.pointer (some ⟨b, 0, none⟩))).run P w = .ok (decide (a = b)) w := fun d => by
    by_cases he : a = b
    · subst he
      simp [Op.equalIn, run_underlying hK, sizeOf, typeInfo, hN, run_sameAddr_same]
    · have hne : (⟨a, 0, none⟩ : Addr) ≠ ⟨b, 0, none⟩ := fun e => he (by injection e)
      simp [Op.equalIn, run_underlying hK, sizeOf, typeInfo, hN, hj, run_sameAddr_other w hne ha hb, he]
  simp [Op.equal, Op.maxDepth, h 9999]
theorem askP {K N : TypeId} {j : TypeInfo} (hK : P.underlying K = some (.pointer N)) (hN : P.info? N = some j) (hj : j.size ≠ 0) {w : World} {k : Nat} (hk : Cellar w k) :
    ∀ (i n : Nat) (L : List (Nat × Value)), (∀ p ∈ L, Cellar w p.1) → ((getP L k = none → (Instr.findAsking K (.pointer (some ⟨k, 0, none⟩)) (mEs n (pL L)) i).run P w = .ok none w) ∧
      (∀ v, getP L k = some v → ∃ j, (Instr.findAsking K (.pointer (some ⟨k, 0, none⟩)) (mEs n (pL L)) i).run P w = .ok (some (j, v)) w))
  | i, n, [], _ => ⟨fun _ => rfl, fun v h => by cases h⟩
  | i, n, p :: L, hc => by
    obtain ⟨h1, h2⟩ := askP hK hN hj hk (i + 1) (n + 1) L (fun q hq => hc q (List.mem_cons_of_mem _ hq))
    have e := eq_ptr hK hN hj (w := w) hk (hc p List.mem_cons_self)
    by_cases hp : p.1 = k
    · rw [decide_eq_true hp.symm] at e
      refine ⟨fun h => ?_, fun v h => ⟨i, ?_⟩⟩
      · rw [getP, if_pos hp] at h; cases h
      · rw [getP, if_pos hp] at h
        injection h with h
        simp [mEs, Instr.findAsking, e, Result.andThen, h]
    · rw [decide_eq_false (fun h => hp h.symm)] at e
      have hf : ∀ r, (Instr.findAsking K (.pointer (some ⟨k, 0, none⟩)) (mEs (n + 1) (pL L)) (i + 1)).run P w = r → (Instr.findAsking K (.pointer (some ⟨k, 0, none⟩)) (mEs n (pL (p :: L))) i).run P w = r := fun r hr => by
        simp only [List.map_cons, mEs, Instr.findAsking, Sem.run_bind, e, Result.andThen, Bool.false_eq_true, if_false]
        exact hr
      rw [getP, if_neg hp]
      exact ⟨fun h => hf _ (h1 h), fun v h => by obtain ⟨j, hj⟩ := h2 v h; exact ⟨j, hf _ hj⟩⟩
theorem findP {K N : TypeId} {j : TypeInfo} (hK : P.underlying K = some (.pointer N)) (hN : P.info? N = some j) (hj : j.size ≠ 0) {w : World} {k : Nat} (hk : Cellar w k) (L : List (Nat × Value)) (hc : ∀ p ∈ L, Cellar w p.1) :
    (getP L k = none → (Instr.findKey K (.pointer (some ⟨k, 0, none⟩)) (mEs 0 (pL L))).run P w = .ok none w) ∧ (∀ v, getP L k = some v → ∃ j, (Instr.findKey K (.pointer (some ⟨k, 0, none⟩)) (mEs 0 (pL L))).run P w = .ok (some (j, v)) w) := by
  have h := askP hK hN hj hk 0 0 L hc
  cases L with
  | nil => exact ⟨fun _ => by simp [Instr.findKey, run_underlying hK, Result.andThen, mEs, Instr.findNow], fun v h => by cases h⟩
  | cons p L =>
    have e : ∀ i, Instr.findNow (.pointer N) (.pointer (some ⟨k, 0, none⟩)) (mEs i (pL (p :: L))) i = none := fun i => by simp [mEs, Instr.findNow, Instr.sameNow]
    have e2 : (Instr.findKey K (.pointer (some ⟨k, 0, none⟩)) (mEs 0 (pL (p :: L)))).run P w = (Instr.findAsking K (.pointer (some ⟨k, 0, none⟩)) (mEs 0 (pL (p :: L)))).run P w := by
      simp only [Instr.findKey, Sem.run_bind, run_underlying hK, Result.andThen, e 0]
    rw [e2]
    exact h
theorem check_p {K N : TypeId} (hK : P.underlying K = some (.pointer N)) (w : World) (k : Option Addr) (e : Bool) (n : Nat) : (Instr.checkKey e (n + 1) K (.pointer k)).run P w = .ok () w := by
  unfold Instr.checkKey
  simp [run_underlying hK, Result.andThen]
theorem lookup_p {T K E N : TypeId} {j : TypeInfo} (hT : P.underlying T = some (.map K E)) (hK : P.underlying K = some (.pointer N)) (hN : P.info? N = some j) (hj : j.size ≠ 0) {z : Value} (hz : ∀ w, (zeroValue E).run P w = .ok z w)
    {w : World} {b : Nat} {L : List (Nat × Value)} (h : MapAt w b (pL L)) {k : Nat} (hk : Cellar w k) (hc : ∀ p ∈ L, Cellar w p.1) :
    (Instr.lookup T (.map (some b)) (.pointer (some ⟨k, 0, none⟩)) true).run P w = .ok (.tuple #[(getP L k).getD z, .bool (getP L k).isSome]) w := by
  obtain ⟨h1, h2⟩ := findP hK hN hj hk L hc
  cases hg : getP L k with
  | none =>
    simp [Instr.lookup, run_underlying hT, Go.MapKept.run_getObj_map h, check_p hK, h1 hg, hz w, Result.andThen]
  | some v =>
    obtain ⟨i, hi⟩ := h2 v hg
    simp [Instr.lookup, run_underlying hT, Go.MapKept.run_getObj_map h, check_p hK, hi, Result.andThen]
/-- a new block -/
theorem put_p {T K E N : TypeId} {j : TypeInfo} (hT : P.underlying T = some (.map K E)) (hK : P.underlying K = some (.pointer N)) (hN : P.info? N = some j) (hj : j.size ≠ 0)
    {w : World} {b : Nat} {L : List (Nat × Value)} (h : MapAt w b (pL L)) {k : Nat} (hk : Cellar w k) (hc : ∀ p ∈ L, Cellar w p.1) (v : Value) (hg : getP L k = none) :
    ∃ w', (Instr.mapUpdate T (.map (some b)) (.pointer (some ⟨k, 0, none⟩)) v).run P w = .ok () w' ∧ w' = hset w b (.map (mEs 0 (pL (L ++ [(k, v)]))).toArray (pL (L ++ [(k, v)])).length) := by
  refine ⟨_, ?_, rfl⟩
  have h1 := (findP hK hN hj hk L hc).1 hg
  have e : (mEs 0 (pL (L ++ [(k, v)]))).toArray = (mEs 0 (pL L)).toArray.push ⟨.pointer (some ⟨k, 0, none⟩), v, (pL L).length⟩ := by
    rw [pL, List.map_append, List.map_cons, List.map_nil, mEs_snoc, Nat.zero_add]
    simp
  have el : (pL (L ++ [(k, v)])).length = (pL L).length + 1 := by simp [pL]
  rw [e, el]
  unfold hset
  simp [Instr.mapUpdate, run_underlying hT, Go.MapKept.run_getObj_map h, check_p hK, h1, run_setObj_map _ h, Result.andThen]
end
end Go.Proofs.YtclhdppepopgeaaGreatDoor
