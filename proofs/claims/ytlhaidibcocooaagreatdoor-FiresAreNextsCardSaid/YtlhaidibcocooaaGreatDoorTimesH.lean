/- Times, the reference: a number of a field is read. (Begun; see NOTES.md.) -/
import Derived.Test.YtlhaidibcocooaaGreatDoorTimesI
import Derived.Test.YtlhaidibcocooaaGreatDoorTimesD
import Derived.Deep.RegionHeld3
import Derived.Lib.SmallJoins
namespace Go.Proofs.YtlhaidibcocooaaGreatDoor
open Go.RowKit

/-- the names of a field: no number is one of them -/
def NmAt (w : World) (v : Value) : Prop := ∃ (A : Option Addr) (c : Nat) (NM : List ByteArray), v = .slice A NM.length c ∧ NM.length ≤ 100 ∧ (0 < NM.length → ∃ g off, A = some ⟨g, off, none⟩ ∧ g < w.heap.size ∧ ∀ j, j < NM.length → w.cell? ⟨g, off + j, none⟩ = some (.string (NM.getD j ByteArray.empty))) ∧ (∀ k, k < 100 → Lib.idxOfS NM ⟨(Lib.decDigits k).toArray⟩ = -1) ∧ (NM = [] ∨ NM = monthsL ∨ NM = daysL)
theorem NmAt.keep {w w' : World} {v : Value} (h : NmAt w v) (hb : Below w.heap.size w w') : NmAt w' v := by
  obtain ⟨A, c, NM, rfl, h1, h2, h3⟩ := h
  refine ⟨A, c, NM, rfl, h1, fun hn => ?_, h3⟩
  obtain ⟨g, off, rfl, hg, hc⟩ := h2 hn
  exact ⟨g, off, rfl, Nat.lt_of_lt_of_le hg hb.size, fun j hj => (hb.cell (p := ⟨g, off + j, none⟩) hg).trans (hc j hj)⟩
theorem index_any (k : Nat) (hk : k < 100) (v : Value) (w : World) (h : NmAt w v) :
    Calls Tryz.prog 99 #[v, .string ⟨(Lib.decDigits k).toArray⟩] w fun e w' => e = .returned (.int .i64 (-1)) ∧ w' = w := by
  obtain ⟨A, c, NM, rfl, h1, h2, h3⟩ := h
  rcases Nat.eq_zero_or_pos NM.length with h0 | h0
  · rw [h0]
    exact Tryz.slices_Index_string_empty A c _ w
  · obtain ⟨g, off, rfl, hg, hc⟩ := h2 h0
    refine (Tryz.slices_Index_string g off NM.length c NM _ w (Nat.le_refl _) (by omega) hc).mono ?_
    rintro e w' ⟨rfl, rfl⟩
    exact ⟨by rw [List.take_length, h3.1 k hk], rfl⟩
theorem lower_any (k : Nat) (hk : k < 100) (w : World) : Calls Tryz.prog 100 #[.string ⟨(Lib.decDigits k).toArray⟩] w fun e w' => e = .returned (.string ⟨(Lib.decDigits k).toArray⟩) ∧ Below w.heap.size w w' := by
  have hd := dig_ok hk
  refine (Tryz.strings_ToLower_ascii ⟨(Lib.decDigits k).toArray⟩ w ?_ (fun j b hb => ?_)).mono ?_
  · show (Lib.decDigits k).toArray.size ≤ _
    rw [List.size_toArray]; omega
  · have := (hd.2.2.1 b (List.mem_of_getElem? hb)).2; omega
  · rintro e w' ⟨rfl, hb⟩
    refine ⟨?_, hb⟩
    have : Lib.toLowerA (⟨(Lib.decDigits k).toArray⟩ : ByteArray).data.toList = Lib.decDigits k := hd.2.2.2.2.1
    rw [this]

set_option maxRecDepth 100000 in
set_option maxHeartbeats 1600000 in
theorem number_any (low high k : Nat) (v : Value) (w : World) (hk : k < 100) (h1 : low ≤ k) (h2 : k ≤ high) (hn : NmAt w v) :
    Calls Tryz.prog 68 #[.agg #[.int .i64 (low : Int), .int .i64 (high : Int), v], .string ⟨(Lib.decDigits k).toArray⟩] w fun e w' => e = .returned (.tuple #[.int .i64 (k : Int), .int .i64 2]) ∧ Below w.heap.size w w' := by
  have hd := dig_ok hk
  have HT := Lib.hid (fun W => trim_digits k hk W)
  have hat := hd.2.2.2.1
  have HA := Lib.hid (fun W => Tryz.strconv_Atoi ⟨(Lib.decDigits k).toArray⟩ (k : Int) (by show (Lib.decDigits k).toArray.size ≤ 18; rw [List.size_toArray]; omega) hat W)
  obtain ⟨dk, hdk⟩ : ∃ dk : ByteArray, (⟨(Lib.decDigits k).toArray⟩ : ByteArray) = dk := ⟨_, rfl⟩
  have HL := Lib.hid (fun W => lower_any k hk W)
  have HI := Lib.hid (fun W (h : NmAt W v) => index_any k hk v W h)
  have hs : dk.size = (Lib.decDigits k).length := by rw [← hdk]; show (Lib.decDigits k).toArray.size = _; rw [List.size_toArray]
  have hs1 : 1 ≤ dk.size := by omega
  have hs2 : dk.size ≤ 2 := by omega
  rw [hdk] at HL HI HT HA
  rw [hdk]
  clear hdk hat
  obtain ⟨A, c, NM, rfl, _⟩ := id hn
  have HX := Lib.hid (BX.start w #[.int .i64 (low : Int), .int .i64 (high : Int), .slice A NM.length c] 75)
  have HN := Lib.hid (hn.keep ((Below.refl _ w).alloc (Nat.le_refl _) (.cells #[.int .i64 (low : Int), .int .i64 (high : Int), .slice A NM.length c] 75)))
  clear hn hd hs
  go_enter Tryz.func68, Tryz.ntmps68
  go_upto_region 1 with fail
  generalize w.alloc (.cells #[.int .i64 (low : Int), .int .i64 (high : Int), .slice A NM.length c] 75) = w1 at *
  have cx := HX.out.cells
  have hc2 : w1.cell? ⟨w.heap.size, 2, none⟩ = some (.slice A NM.length c) := cx 2
  have lx := HX.out.lt
  clear cx
  have HK : Hid (∀ W, Below w1.heap.size w1 W → W.cell? ⟨w.heap.size, 2, none⟩ = some (.slice A NM.length c)) := Lib.hid (fun W hW => (hW.cell (p := ⟨w.heap.size, 2, none⟩) lx).trans hc2)
  have hr0 := Below.refl w1.heap.size w1
  go_region_held3 (fun W => W.cell? ⟨w.heap.size, 2, none⟩ = some (.slice A NM.length c)) (first | (with_reducible exact HK.out _ hr0.drew) | (with_reducible exact HK.out _ hr0) | (with_reducible exact HK.out _ hb5)) (first
    | (go_at_call 100; refine (HL.out _).mono ?_; rintro e w5 ⟨rfl, hb5'⟩; have hb5 : Below w1.heap.size w1 w5 := hr0.drew.trans hb5')
    | (go_at_call 99; refine (HI.out _ (HN.out.keep hb5)).mono ?_; rintro e w6 ⟨rfl, hw6⟩; rw [hw6]; clear hw6))
  have HB5 := Lib.hid hb5
  have c0 : w5.cell? ⟨w.heap.size, 0, none⟩ = some (.int .i64 (low : Int)) := (hb5.cell (p := ⟨w.heap.size, 0, none⟩) lx).trans (HX.out.cells 0)
  have c1 : w5.cell? ⟨w.heap.size, 1, none⟩ = some (.int .i64 (high : Int)) := (hb5.cell (p := ⟨w.heap.size, 1, none⟩) lx).trans (HX.out.cells 1)
  have l5 : w.heap.size < w5.heap.size := Nat.lt_of_lt_of_le lx hb5.size
  clear hc2 hr0 HK
  go_wp2_with fail
  refine (HT.out _).mono ?_
  rintro e w7 ⟨rfl, hb7⟩
  have d0 := (hb7.cell (p := ⟨w.heap.size, 0, none⟩) l5).trans c0
  have d1 := (hb7.cell (p := ⟨w.heap.size, 1, none⟩) l5).trans c1
  have HB7 := Lib.hid (HB5.out.trans (hb7.mono HB5.out.size))
  have l7 : w.heap.size < w7.heap.size := Nat.lt_of_lt_of_le l5 hb7.size
  clear hb7 c0 c1 l5
  go_wp2_with fail
  refine (HA.out _).mono ?_
  rintro e w8 ⟨rfl, tt, hw8⟩
  have hb8 : Below w7.heap.size w7 w8 := by rw [hw8]; exact Joins.below_bytesWorld w7.heap.size w7 _ tt (Nat.le_refl _)
  have e0 := (hb8.cell (p := ⟨w.heap.size, 0, none⟩) l7).trans d0
  have e1 := (hb8.cell (p := ⟨w.heap.size, 1, none⟩) l7).trans d1
  have HB8 := Lib.hid (HB7.out.trans (hb8.mono HB7.out.size))
  have HX8 := Lib.hid (HX.out.below.trans (HB8.out.mono HX.out.below.size))
  have i1 : ¬ (k : Int) < (low : Int) := by omega
  have i2 : ¬ (high : Int) < (k : Int) := by omega
  clear hb8 hw8 d0 d1 l7
  go_wp2_with fail
  go_ret2
  exact ⟨rfl, HX8.out⟩

end Go.Proofs.YtlhaidibcocooaaGreatDoor
