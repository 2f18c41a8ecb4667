/- Arithmetic expressions: the reference's reader: peek, next, got, fail, more. -/
import Derived.Test.YtiigclkebnmopaaGreatDoorArPlain
import Derived.Test.YtiigclkebnmopaaGreatDoorArSign
import Derived.Test.YtiigclkebnmopaaGreatDoorArLev
namespace Go.Proofs.YtiigclkebnmopaaGreatDoor
open Go.RowKit Go.Shelf

def rrC (T : List UInt8) (p : Nat) (j : Bool) : Array Value := #[.string (toB T), .int .i64 (p : Int), .slice none 0 0, .bool false, .pointer none, .bool j]
/-- the reference's reader in block b stands at l, the end of T -/
structure RRd (w : World) (b : Nat) (T l : List UInt8) : Prop where
  box : ∃ (p : Nat) (j : Bool), p + l.length = T.length ∧ w.heap[b]? = some (.cells (rrC T p j) 70 (0, 0))
  suf : ∃ pre, T = pre ++ l
  len : T.length ≤ 16384
  nz : (0 : UInt8) ∉ T
theorem RRd.lt {w : World} {b : Nat} {T l : List UInt8} (h : RRd w b T l) : b < w.heap.size := by
  obtain ⟨p, j, _, hb⟩ := h.box
  exact (Array.getElem?_eq_some_iff.1 hb).1
theorem RRd.keep {w w' : World} {b : Nat} {T l : List UInt8} (h : RRd w b T l) (hb : Below w.heap.size w w') : RRd w' b T l := by
  obtain ⟨p, j, h1, h4⟩ := h.box
  exact ⟨⟨p, j, h1, (hb.block b h.lt).trans h4⟩, h.suf, h.len, h.nz⟩
theorem RRd.drewN {w : World} {b : Nat} {T l : List UInt8} (h : RRd w b T l) (n : Nat) : RRd (w.drewN n) b T l := ⟨h.box, h.suf, h.len, h.nz⟩
/-- the reader's cells -/
theorem RRd.cells {w : World} {b : Nat} {T l : List UInt8} (h : RRd w b T l) : ∃ (p : Nat) (j : Bool), p + l.length = T.length ∧ T.drop p = l ∧ w.cell? ⟨b, 0, none⟩ = some (.string (toB T)) ∧ w.cell? ⟨b, 1, none⟩ = some (.int .i64 (p : Int)) ∧ w.cell? ⟨b, 5, none⟩ = some (.bool j) ∧
    (∀ i, w.frozen? ⟨b, i, none⟩ = false) ∧ w.heap[b]? = some (.cells (rrC T p j) 70 (0, 0)) := by
  obtain ⟨p, j, h1, h4⟩ := h.box
  obtain ⟨pre, hT⟩ := h.suf
  refine ⟨p, j, h1, ?_, ?_, ?_, ?_, ?_, h4⟩
  · have : p = pre.length := by rw [hT] at h1; simp at h1; omega
    rw [hT, this, List.drop_left]
  all_goals first | simp [World.cell?, h4, rrC] | skip
  intro i
  simp [World.frozen?, h4]
theorem RRd.put {w : World} {b p : Nat} {j : Bool} {T l l' : List UInt8} {p' : Nat} (h : RRd w b T l) (hb : w.heap[b]? = some (.cells (rrC T p j) 70 (0, 0))) (hp : p' + l'.length = T.length) (hs : T.drop p' = l') :
    RRd (w.setCell ⟨b, 1, none⟩ (.int .i64 (p' : Int))) b T l' := by
  refine ⟨⟨p', j, hp, ?_⟩, ⟨T.take p', by rw [← hs]; simp⟩, h.len, h.nz⟩
  rw [heap_setCell_same _ _ _ _ _ _ hb]
  rfl
theorem RRd.store {w : World} {b : Nat} {T l l' : List UInt8} {q : Nat} (h : RRd w b T l) (hq : q + l'.length = T.length) (hd : T.drop q = l') : RRd (w.setCell ⟨b, 1, none⟩ (.int .i64 (q : Int))) b T l' := by
  obtain ⟨p, j, hp, _, _, _, _, _, hb⟩ := h.cells
  exact h.put hb hq hd
theorem RRd.pos {w : World} {b : Nat} {T l : List UInt8} (h : RRd w b T l) : posOf w b + l.length = T.length := by
  obtain ⟨p, j, h1, _, _, c1, _⟩ := h.cells
  unfold posOf
  rw [c1]
  simp
  omega
theorem RRd.only {w w' : World} {b y : Nat} {T l : List UInt8} (h : RRd w b T l) (ho : Only y w w') (hy : b ≠ y) : RRd w' b T l := by
  obtain ⟨p, j, h1, h4⟩ := h.box
  exact ⟨⟨p, j, h1, (ho.block b h.lt hy).trans h4⟩, h.suf, h.len, h.nz⟩
theorem RRd.grown {w w' : World} {b B : Nat} {T l : List UInt8} {row : Option Nat} (h : RRd w b T l) (hg : w.grownBy w' row) (hr : ∀ r, row = some r → B ≤ r) (hb : b < B) : RRd w' b T l := by
  obtain ⟨p, j, h1, h4⟩ := h.box
  exact ⟨⟨p, j, h1, (hg.block b h.lt (fun e => by have := hr b e.symm; omega)).trans h4⟩, h.suf, h.len, h.nz⟩
end Go.Proofs.YtiigclkebnmopaaGreatDoor

namespace Go.Proofs.YtiigclkebnmopaaGreatDoor
open Go.RowKit Go.Shelf

/-- a panic with a fault -/
def rpan (place e : Int) : Ending := .panicked [{ v := .iface 109 (.agg #[.int .i64 place, .int .i64 e]), recovered := false }]
end Go.Proofs.YtiigclkebnmopaaGreatDoor

namespace Go.Proofs.YtiigclkebnmopaaGreatDoor
open Go.RowKit Go.Shelf

set_option maxHeartbeats 1600000 in
theorem rdigit_any (c : UInt8) (w : World) : Calls Tryz.prog 129 #[.int .u8 (c.toNat : Int)] w fun e w' => e = .returned (.bool (isD c)) ∧ w = w' := by
  have HC := Lib.hid ((isDB_u8 c).symm.trans (show isDB (c.toNat : Int) = decide (48 ≤ (c.toNat : Int) ∧ (c.toNat : Int) ≤ 57) from rfl))
  generalize isD c = r at *
  generalize (c.toNat : Int) = c at *
  by_cases h1 : 48 ≤ c
  · go_enter Tryz.func129, Tryz.ntmps129
    go_wp2
    go_ret
    exact ⟨ret_bool (by rw [HC.out, Bool.eq_iff_iff]; simp <;> omega), rfl⟩
  · go_enter Tryz.func129, Tryz.ntmps129
    go_wp2
    go_ret
    exact ⟨ret_bool (by rw [HC.out, Bool.eq_iff_iff]; simp <;> omega), rfl⟩
set_option maxHeartbeats 1600000 in
theorem rletter_any (c : UInt8) (w : World) : Calls Tryz.prog 128 #[.int .u8 (c.toNat : Int)] w fun e w' => e = .returned (.bool (isL c)) ∧ w = w' := by
  have HC := Lib.hid ((isLB_u8 c).symm.trans (show isLB (c.toNat : Int) = decide (97 ≤ (c.toNat : Int) ∧ (c.toNat : Int) ≤ 122 ∨ 65 ≤ (c.toNat : Int) ∧ (c.toNat : Int) ≤ 90 ∨ (c.toNat : Int) = 95) from rfl))
  generalize isL c = r at *
  generalize (c.toNat : Int) = c at *
  by_cases h5 : c = 95
  · have hb5 : (c == 95) = true := by simpa using h5
    go_enter Tryz.func128, Tryz.ntmps128
    go_wp2
    go_ret
    exact ⟨ret_bool (by rw [HC.out, Bool.eq_iff_iff]; simp <;> omega), rfl⟩
  · have hb5 : (c == 95) = false := by simpa using h5
    by_cases h1 : 97 ≤ c
    · by_cases h2 : c ≤ 122
      · go_enter Tryz.func128, Tryz.ntmps128
        go_wp2
        go_ret
        exact ⟨ret_bool (by rw [HC.out, Bool.eq_iff_iff]; simp <;> omega), rfl⟩
      · have h3 : 65 ≤ c := by omega
        have h4 : ¬ c ≤ 90 := by omega
        go_enter Tryz.func128, Tryz.ntmps128
        go_wp2
        go_ret
        exact ⟨ret_bool (by rw [HC.out, Bool.eq_iff_iff]; simp <;> omega), rfl⟩
    · by_cases h3 : 65 ≤ c
      · by_cases h4 : c ≤ 90
        · go_enter Tryz.func128, Tryz.ntmps128
          go_wp2
          go_ret
          exact ⟨ret_bool (by rw [HC.out, Bool.eq_iff_iff]; simp <;> omega), rfl⟩
        · go_enter Tryz.func128, Tryz.ntmps128
          go_wp2
          go_ret
          exact ⟨ret_bool (by rw [HC.out, Bool.eq_iff_iff]; simp <;> omega), rfl⟩
      · go_enter Tryz.func128, Tryz.ntmps128
        go_wp2
        go_ret
        exact ⟨ret_bool (by rw [HC.out, Bool.eq_iff_iff]; simp <;> omega), rfl⟩

end Go.Proofs.YtiigclkebnmopaaGreatDoor

namespace Go.Proofs.YtiigclkebnmopaaGreatDoor
open Go.RowKit Go.Shelf

/-- what a function of the reference that reads gives -/
def RPG (b : Nat) (T : List UInt8) (o : Out) (w : World) (e : Ending) (w' : World) : Prop := match o with
  | .ok x l1 => ∃ v, e = .returned v ∧ ExV (Nw w) w' v x ∧ RRd w' b T l1 ∧ Only b w w'
  | .stuck _ => False
  | .bad l1 => e = rpan (plc T l1) 1 ∧ Only b w w'
  | .more => e = rpan T.length 27 ∧ Only b w w'
  | .none => False
end Go.Proofs.YtiigclkebnmopaaGreatDoor

namespace Go.Proofs.YtiigclkebnmopaaGreatDoor
open Go.RowKit Go.Shelf

theorem RRd.le {w : World} {b : Nat} {T l : List UInt8} (h : RRd w b T l) : l.length ≤ 16384 := by
  obtain ⟨p, _, hp, _⟩ := h.cells
  have := h.len
  omega
end Go.Proofs.YtiigclkebnmopaaGreatDoor
