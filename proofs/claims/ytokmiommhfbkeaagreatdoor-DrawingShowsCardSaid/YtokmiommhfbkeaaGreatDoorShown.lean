/- How a byte is displayed: the program's shown and the reference's shown tell the same for every byte. -/
import Derived.Test.YtokmiommhfbkeaaGreatDoorBase
import Derived.Test.YtokmiommhfbkeaaGreatDoorShelf
import Derived.LoopN
import Derived.BigQuiet
namespace Go.Proofs.YtokmiommhfbkeaaGreatDoor
open Go.RowKit

def hexD (n : Nat) : UInt8 := UInt8.ofNat (if n < 10 then 48 + n else 87 + n)
def shownB (c : UInt8) : List UInt8 :=
  if 32 ≤ c.toNat ∧ c.toNat ≤ 126 then [c] else if c.toNat < 128 then [94, c ^^^ 64] else [hexD (c.toNat / 16), hexD (c.toNat % 16)]

/-- the one entry of de Bruijn's table that is read -/
def Deb (w : World) : Prop := w.cell? ⟨7, 15, none⟩ = some (.int .u8 4)
theorem Deb.keep {w w' : World} (h : Deb w) (hb : Below w.heap.size w w') : Deb w' := by
  unfold Deb at *
  rw [hb.cell (p := ⟨7, 15, none⟩) (World.block_lt_of_cell? w _ h)]
  exact h

set_option maxHeartbeats 800000 in
theorem tz16 (w : World) (h : Deb w) : Calls Tryz.prog 244 #[.int .u64 16] w fun e w' => e = .returned (.int .i64 4) ∧ w = w' := by
  unfold Deb at h
  have e1 : bits BinOp.and IntKind.u64 16 (IntKind.u64.wrap (-16)) = 16 := by decide +kernel
  have e2 : IntKind.u64.wrap 4573923408821661840 = 4573923408821661840 := by decide +kernel
  go_enter Tryz.func244, Tryz.ntmps244
  go_wp2
  go_ret
  exact ⟨rfl, rfl⟩

set_option maxHeartbeats 800000 in
theorem tz16u (w : World) (h : Deb w) : Calls Tryz.prog 238 #[.int .u64 16] w fun e w' => e = .returned (.int .i64 4) ∧ w = w' := by
  go_enter Tryz.func238, Tryz.ntmps238
  go_wp2_with (go_at_call 244; refine (tz16 _ h).mono ?_; rintro e w' ⟨rfl, rfl⟩)
  go_ret
  exact ⟨rfl, rfl⟩

set_option maxHeartbeats 800000 in
theorem pow16 (w : World) : Calls Tryz.prog 237 #[.int .i64 16] w fun e w' => e = .returned (.bool true) ∧ w = w' := by
  have e1 : bits BinOp.and IntKind.i64 16 15 = 0 := by decide +kernel
  go_enter Tryz.func237, Tryz.ntmps237
  go_wp2
  go_ret
  exact ⟨rfl, rfl⟩

theorem and15 (u : Nat) (h : u < 256) : bits BinOp.and IntKind.u64 (u : Int) 15 = ((u % 16 : Nat) : Int) := by
  have : ∀ u : Fin 256, bits BinOp.and IntKind.u64 ((u.val : Nat) : Int) 15 = ((u.val % 16 : Nat) : Int) := by decide +kernel
  exact this ⟨u, h⟩

/-- the digits -/
def digs : ByteArray := ⟨#[48, 49, 50, 51, 52, 53, 54, 55, 56, 57, 97, 98, 99, 100, 101, 102, 103, 104, 105, 106, 107, 108, 109, 110, 111, 112, 113, 114, 115, 116, 117, 118, 119, 120, 121, 122]⟩
theorem dig_fin : ∀ k : Fin 16, digs[k.val]'(by have := k.2; show _ < 36; omega) = hexD k.val := by decide +kernel
theorem dig_at (k : Nat) (h : k < 16) (hk : k < digs.size) : digs[k] = hexD k := dig_fin ⟨k, h⟩
theorem bits_end (u : Nat) (h : u < 256) (h1 : u / 16 < digs.size) (h2 : u % 16 < digs.size) :
    Ending.returned (.tuple #[.slice none 0 0, .string ⟨#[digs[u / 16], digs[u % 16]]⟩]) = .returned (.tuple #[.slice none 0 0, .string ⟨#[hexD (u / 16), hexD (u % 16)]⟩]) := by
  rw [dig_at (u / 16) (by omega), dig_at (u % 16) (by omega)]
theorem zc_size : Tryz.zeroCells307.size = 65 := by kernel_rfl
theorem two_back (w : World) (x y : UInt8) :
    (convert 50 9 (.slice (some ⟨w.heap.size, 63, none⟩) 2 2)).run Tryz.prog (w.alloc (.cells ((Tryz.zeroCells307.setIfInBounds 64 (.int .u8 x.toNat)).setIfInBounds 63 (.int .u8 y.toNat)) 307)) =
      .ok (.string ⟨#[y, x]⟩) (w.alloc (.cells ((Tryz.zeroCells307.setIfInBounds 64 (.int .u8 x.toNat)).setIfInBounds 63 (.int .u8 y.toNat)) 307)) := by
  have hz := zc_size
  refine run_convert_bytes_back _ 50 9 5 ⟨w.heap.size, 63, none⟩ 2 [y, x] Tryz.underlying50 Tryz.underlying5 Tryz.underlying9 (fun j hj => ?_)
  rw [WideShapes.add_plain, World.cell?_alloc_at _ _ _ _ rfl]
  match j, hj with
  | 0, _ => simp [hz]
  | 1, _ => simp [hz]

set_option maxRecDepth 100000 in
set_option maxHeartbeats 3200000 in
theorem bits16 (u : Nat) (h1 : 128 ≤ u) (h2 : u < 256) (w : World) (h : Deb w) :
    Calls Tryz.prog 217 #[.slice none 0 0, .int .u64 u, .int .i64 16, .bool false, .bool false] w fun e w' => e = .returned (.tuple #[.slice none 0 0, .string ⟨#[hexD (u / 16), hexD (u % 16)]⟩]) ∧ Below w.heap.size w w' := by
  have ha := and15 u h2
  have hcv := two_back w
  go_enter Tryz.func217, Tryz.ntmps217
  go_wp2_with (first | (go_at_call 238; refine (tz16u _ (h.keep ((Below.refl _ _).alloc (Nat.le_refl _) _))).mono ?_; rintro e w' ⟨rfl, rfl⟩) | (go_at_call 237; refine (pow16 _).mono ?_; rintro e w' ⟨rfl, rfl⟩))
  refine wp_loop_rounds 2 ?_
  rw [rounds_succ]
  have hlt : u % 16 < 16 := Nat.mod_lt _ (by omega)
  go_wp2_with fail
  rw [rounds_succ]
  go_wp2_with fail
  go_ret2
  exact ⟨bits_end u h2 (by show _ < 36; omega) (by show _ < 36; omega), ((Below.refl _ _).alloc (Nat.le_refl _) _)⟩

set_option maxHeartbeats 400000 in
theorem fmt16 (u : Nat) (h1 : 128 ≤ u) (h2 : u < 256) (w : World) (h : Deb w) :
    Calls Tryz.prog 162 #[.int .i64 u, .int .i64 16] w fun e w' => e = .returned (.string ⟨#[hexD (u / 16), hexD (u % 16)]⟩) ∧ Below w.heap.size w w' := by
  go_enter Tryz.func162, Tryz.ntmps162
  go_wp2_with (go_at_call 217; refine (bits16 u h1 h2 _ h).mono ?_; rintro e w' ⟨rfl, hb⟩)
  go_ret
  exact ⟨rfl, hb⟩
set_option maxHeartbeats 400000 in
theorem sfmt16 (u : Nat) (h1 : 128 ≤ u) (h2 : u < 256) (w : World) (h : Deb w) :
    Calls Tryz.prog 103 #[.int .i64 u, .int .i64 16] w fun e w' => e = .returned (.string ⟨#[hexD (u / 16), hexD (u % 16)]⟩) ∧ Below w.heap.size w w' := by
  go_enter Tryz.func103, Tryz.ntmps103
  go_wp2_with (go_at_call 162; refine (fmt16 u h1 h2 _ h).mono ?_; rintro e w' ⟨rfl, hb⟩)
  go_ret
  exact ⟨rfl, hb⟩

theorem one_back (w : World) (x : UInt8) :
    (convert 50 9 (.slice (some ⟨w.heap.size, 0, none⟩) 1 1)).run Tryz.prog (w.alloc (.cells #[.int .u8 x.toNat] 5)) = .ok (.string ⟨#[x]⟩) (w.alloc (.cells #[.int .u8 x.toNat] 5)) := by
  refine run_convert_bytes_back _ 50 9 5 ⟨w.heap.size, 0, none⟩ 1 [x] Tryz.underlying50 Tryz.underlying5 Tryz.underlying9 (fun j hj => ?_)
  rw [WideShapes.add_plain, World.cell?_alloc_at _ _ _ _ rfl]
  match j, hj with
  | 0, _ => simp
theorem pair_back (w : World) (x y : UInt8) :
    (convert 50 9 (.slice (some ⟨w.heap.size, 0, none⟩) 2 2)).run Tryz.prog (w.alloc (.cells #[.int .u8 x.toNat, .int .u8 y.toNat] 5)) = .ok (.string ⟨#[x, y]⟩) (w.alloc (.cells #[.int .u8 x.toNat, .int .u8 y.toNat] 5)) := by
  refine run_convert_bytes_back _ 50 9 5 ⟨w.heap.size, 0, none⟩ 2 [x, y] Tryz.underlying50 Tryz.underlying5 Tryz.underlying9 (fun j hj => ?_)
  rw [WideShapes.add_plain, World.cell?_alloc_at _ _ _ _ rfl]
  match j, hj with
  | 0, _ => simp
  | 1, _ => simp
theorem xor64 (c : UInt8) : bits BinOp.xor IntKind.u8 (c.toNat : Int) 64 = ((c ^^^ 64 : UInt8).toNat : Int) := by
  have : ∀ u : Fin 256, bits BinOp.xor IntKind.u8 ((u.val : Nat) : Int) 64 = ((UInt8.ofNat u.val ^^^ 64 : UInt8).toNat : Int) := by decide +kernel
  have h := this ⟨c.toNat, c.toNat_lt⟩
  simpa using h

set_option maxRecDepth 100000 in
set_option maxHeartbeats 1600000 in
theorem shown_any (c : UInt8) (w : World) (h : Deb w) :
    Calls Tryz.prog 54 #[.int .u8 c.toNat] w fun e w' => e = .returned (.string ⟨(shownB c).toArray⟩) ∧ Below w.heap.size w w' := by
  have hc := c.toNat_lt
  by_cases h1 : 32 ≤ c.toNat ∧ c.toNat ≤ 126
  · have hfin := Lib.hid (show shownB c = [c] by unfold shownB; rw [if_pos h1])
    have hcv := one_back w c
    obtain ⟨g1, g2⟩ := h1
    go_enter Tryz.func54, Tryz.ntmps54
    go_wp2
    go_ret
    exact ⟨ret_str (by rw [hfin.out]), (Below.refl _ _).alloc (Nat.le_refl _) _⟩
  · by_cases h2 : c.toNat < 128
    · have hfin := Lib.hid (show shownB c = [94, c ^^^ 64] by unfold shownB; rw [if_neg h1, if_pos h2])
      have hx := xor64 c
      have hcv := pair_back w 94 (c ^^^ 64)
      rw [show ((94 : UInt8).toNat : Int) = 94 from rfl] at hcv
      have g : decide ((32 : Int) ≤ c.toNat) = false ∨ (decide ((32 : Int) ≤ c.toNat) = true ∧ decide ((c.toNat : Int) ≤ 126) = false) := by
        by_cases g : 32 ≤ c.toNat
        · exact .inr ⟨by rw [decide_eq_true_iff]; omega, by rw [decide_eq_false_iff_not]; omega⟩
        · exact .inl (by rw [decide_eq_false_iff_not]; omega)
      clear h1
      generalize c ^^^ 64 = y at *
      rcases g with g | ⟨g, g'⟩
      all_goals
        go_enter Tryz.func54, Tryz.ntmps54
        go_wp2
        go_ret
        exact ⟨ret_str (by rw [hfin.out]), (Below.refl _ _).alloc (Nat.le_refl _) _⟩
    · have hfin := Lib.hid (show shownB c = [hexD (c.toNat / 16), hexD (c.toNat % 16)] by unfold shownB; rw [if_neg h1, if_neg h2])
      have g1 : decide ((c.toNat : Int) ≤ 126) = false := by rw [decide_eq_false_iff_not]; omega
      clear h1
      go_enter Tryz.func54, Tryz.ntmps54
      go_wp2_with (go_at_call 103; refine (sfmt16 c.toNat (by omega) (by omega) _ h).mono ?_; rintro e w' ⟨rfl, hb⟩)
      go_ret
      exact ⟨ret_str (by rw [hfin.out]), hb⟩

end Go.Proofs.YtokmiommhfbkeaaGreatDoor
