/- TildeMatches, the reference: the map of three names. -/
import Derived.Test.YtlhmlbhpflgbpaaGreatDoorTlV
namespace Go.Proofs.YtlhmlbhpflgbpaaGreatDoor
open Go.RowKit Go.MapKept

/-- the name that is looked up -/
def nameS (h : ByteArray) : ByteArray := match nameOfT h with
  | none => ⟨#[]⟩
  | some nm => nm
abbrev kA : ByteArray := ⟨#[126]⟩
abbrev kB : ByteArray := ⟨#[126, 43]⟩
abbrev kC : ByteArray := ⟨#[126, 45]⟩
def esT : Array MapEntry := #[⟨.string kA, .string nHOME, 0⟩, ⟨.string kB, .string nPWD, 1⟩, ⟨.string kC, .string nOLD, 2⟩]
theorem und158 : Tryz.prog.underlying 158 = some (.map 9 9) := by kernel_rfl
theorem und9 : Tryz.prog.underlying 9 = some .string := by kernel_rfl
def hset (w : World) (r : Nat) (o : Obj) : World := { w with heap := w.heap.setIfInBounds r o }
theorem hset_at {w : World} {r : Nat} {o o' : Obj} (h : w.heap[r]? = some o) : (hset w r o').heap[r]? = some o' := (heap_set h).1
theorem map_upd (w : World) (r : Nat) (es : Array MapEntry) (clock : Nat) (k v : ByteArray) (hb : w.heap[r]? = some (.map es clock)) (hf : Instr.findNow .string (.string k) es.toList 0 = some none) :
    (Instr.mapUpdate 158 (.map (some r)) (.string k) (.string v)).run Tryz.prog w = .ok () (hset w r (.map (es.push ⟨.string k, .string v, clock⟩) (clock + 1))) := by
  unfold hset
  simp [Instr.mapUpdate, run_underlying und158, Go.MapKept.run_getObj_map hb, run_checkKey und9 (show IsKey .string (.string k) from trivial), run_findKey und9 hf, run_setObj_map _ hb, Result.andThen]
theorem byte_beq (a b : ByteArray) : (a == b) = (a.toList == b.toList) := by
  rw [Bool.eq_iff_iff, Lib.bytes_beq_iff]
  constructor
  · intro h
    have h2 : (a.data == b.data) = true := h
    exact ByteArray.ext (eq_of_beq h2)
  · rintro rfl
    show (a.data == a.data) = true
    exact beq_self_eq_true _
theorem findT (h : ByteArray) : Instr.findNow .string (.string h) esT.toList 0 = some (match nameOfT h with
  | none => none
  | some nm => some (if (h.toList == [126]) = true then 0 else if (h.toList == [126, 43]) = true then 1 else 2, .string nm)) := by
  have e1 : (h == kA) = (h.toList == [126]) := (byte_beq h kA).trans (by rw [ByteArray.toList_eq kA])
  have e2 : (h == kB) = (h.toList == [126, 43]) := (byte_beq h kB).trans (by rw [ByteArray.toList_eq kB])
  have e3 : (h == kC) = (h.toList == [126, 45]) := (byte_beq h kC).trans (by rw [ByteArray.toList_eq kC])
  unfold nameOfT esT
  simp only [Instr.findNow, Instr.sameNow, e1, e2, e3]
  cases h1 : (h.toList == [126]) <;> cases h2 : (h.toList == [126, 43]) <;> cases h3 : (h.toList == [126, 45]) <;> simp
theorem map_look (w : World) (r : Nat) (clock : Nat) (h : ByteArray) (hb : w.heap[r]? = some (.map esT clock)) :
    (Instr.lookup 158 (.map (some r)) (.string h) false).run Tryz.prog w = .ok (.string (nameS h)) w := by
  have hf := findT h
  unfold nameS
  cases hn : nameOfT h with
  | none =>
    rw [hn] at hf
    simp [Instr.lookup, run_underlying und158, Go.MapKept.run_getObj_map hb, run_checkKey und9 (show IsKey .string (.string h) from trivial), run_findKey und9 hf, Result.andThen]
  | some nm =>
    rw [hn] at hf
    simp [Instr.lookup, run_underlying und158, Go.MapKept.run_getObj_map hb, run_checkKey und9 (show IsKey .string (.string h) from trivial), run_findKey und9 hf, Result.andThen]
theorem map_set_below {B : Nat} {w0 w : World} (h : Below B w0 w) {r : Nat} (hr : B ≤ r) (o : Obj) : Below B w0 (hset w r o) :=
  ⟨h.os, h.tape, h.output, by unfold hset; simpa using h.size, fun b hb => by
    unfold hset
    rw [← h.block b hb]
    exact Array.getElem?_setIfInBounds_ne (by omega)⟩
/-- the map is made, filled and asked -/
theorem map_all (w : World) (h : ByteArray) : ∃ W2 W3 W4, (Instr.mapUpdate 158 (.map (some w.heap.size)) (.string kA) (.string nHOME)).run Tryz.prog (w.alloc (.map #[] 0)) = .ok () W2 ∧ (Instr.mapUpdate 158 (.map (some w.heap.size)) (.string kB) (.string nPWD)).run Tryz.prog W2 = .ok () W3 ∧
    (Instr.mapUpdate 158 (.map (some w.heap.size)) (.string kC) (.string nOLD)).run Tryz.prog W3 = .ok () W4 ∧ (Instr.lookup 158 (.map (some w.heap.size)) (.string h) false).run Tryz.prog W4 = .ok (.string (nameS h)) W4 ∧ Below w.heap.size w W4 := by
  have h1 : (w.alloc (.map #[] 0)).heap[w.heap.size]? = some (.map #[] 0) := (heap_alloc w _).1
  have u1 := map_upd _ _ _ _ kA nHOME h1 (by rfl)
  have h2 := hset_at h1 (o' := .map (#[].push ⟨.string kA, .string nHOME, 0⟩) (0 + 1))
  have u2 := map_upd _ _ _ _ kB nPWD h2 (by rfl)
  have h3 := hset_at h2 (o' := .map ((#[].push ⟨.string kA, .string nHOME, 0⟩).push ⟨.string kB, .string nPWD, 0 + 1⟩) (0 + 1 + 1))
  have u3 := map_upd _ _ _ _ kC nOLD h3 (by rfl)
  have h4 := hset_at h3 (o' := .map (((#[].push ⟨.string kA, .string nHOME, 0⟩).push ⟨.string kB, .string nPWD, 0 + 1⟩).push ⟨.string kC, .string nOLD, 0 + 1 + 1⟩) (0 + 1 + 1 + 1))
  refine ⟨_, _, _, u1, u2, u3, map_look _ _ _ h h4, ?_⟩
  exact map_set_below (map_set_below (map_set_below ((Below.refl _ w).alloc (Nat.le_refl _) _) (Nat.le_refl _) _) (Nat.le_refl _) _) (Nat.le_refl _) _
end Go.Proofs.YtlhmlbhpflgbpaaGreatDoor
