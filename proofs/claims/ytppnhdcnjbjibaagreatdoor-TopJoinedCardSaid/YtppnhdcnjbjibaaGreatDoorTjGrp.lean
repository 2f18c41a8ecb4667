/- TopJoined: groups of records; whether a join's order is right. -/
import Derived.Test.YtppnhdcnjbjibaaGreatDoorTjRecs
import Derived.Test.YtppnhdcnjbjibaaGreatDoorTjCut
namespace Go.Proofs.YtppnhdcnjbjibaaGreatDoor
open Go.RowKit

theorem toList_ne {a b : ByteArray} (h : a ≠ b) : (a.toList == b.toList) = false := by
  rw [ByteArray.toList_eq, ByteArray.toList_eq]
  exact beq_eq_false_iff_ne.2 (fun e => h (by
    apply ByteArray.ext
    exact Array.toList_inj.1 e))
set_option maxRecDepth 100000 in
set_option maxHeartbeats 1600000 in
theorem group_any (P : List RP) (key : ByteArray) (m : Nat) (hm : m ≤ P.length) (h1 : ∀ j (h : j < P.length), j < m → P[j].1.1 = key) (h2 : ∀ (h : m < P.length), P[m].1.1 ≠ key) (hn : P.length ≤ 1000) (v : Value) (w : World) (hv : RV w v P) :
    Calls Tryz.prog 29 #[v, .string key] w fun e w' => e = .returned (.int .i64 (m : Int)) ∧ w' = w := by
  have HV := Lib.hid hv
  have H1 := Lib.hid h1
  have H2 := Lib.hid h2
  obtain ⟨A, c, rfl⟩ := hv.form
  clear hv h1 h2
  go_enter Tryz.func29, Tryz.ntmps29
  go_wp2_with fail
  go_loopw [5] (fun s5 wr => ∃ k : Nat, k ≤ m ∧ s5 = .int .i64 (k : Int) ∧ wr = w) (fun s5 _ => m - (intOf s5).toNat)
  case atStart => exact ⟨0, Nat.zero_le _, rfl, rfl⟩
  case round =>
    obtain ⟨k, hk, rfl, hwr⟩ := hrel
    subst hwr
    by_cases hkm : k < m
    · have hlt : k < P.length := by omega
      have hltz : (k : Int) < (P.length : Int) := by omega
      have hk1 : IntKind.i64.wrap ((k : Int) + 1) = ((k + 1 : Nat) : Int) := IntWalk.i64_in _ (by omega)
      obtain ⟨b, off, c', e', _, _, hc⟩ := HV.out.at k hlt
      injection e' with e1 e2 e3
      subst e1
      rw [H1.out k hlt hkm] at hc
      clear e2 e3
      go_wp2_with fail
      exact ⟨⟨k + 1, by omega, by simp, by simp⟩, by simp [intOf]; omega⟩
    · obtain rfl : k = m := by omega
      by_cases hlt : k < P.length
      · have hltz : (k : Int) < (P.length : Int) := by omega
        obtain ⟨b, off, c', e', _, _, hc⟩ := HV.out.at k hlt
        injection e' with e1 e2 e3
        subst e1
        have hne := toList_ne (H2.out hlt)
        generalize P[k].1.1 = sk at *
        clear e2 e3
        go_wp2_with fail
        go_ret
        exact ⟨rfl, by simp⟩
      · have hltz : ¬ (k : Int) < (P.length : Int) := by omega
        go_wp2_with fail
        go_ret
        exact ⟨rfl, by simp⟩

/-- the join's order -/
abbrev joinV : Value := .agg #[.int .i64 1, .int .i64 1, .string ⟨#[44]⟩, .bool false, .bool false, .bool false, .string ⟨#[]⟩, .slice none 0 0]
def JspAt (w : World) (x : Nat) : Prop := w.heap[x]? = some (.cells #[.int .i64 1, .int .i64 1, .string ⟨#[44]⟩, .bool false, .bool false, .bool false, .string ⟨#[]⟩, .slice none 0 0] 44 (0, 0))
theorem JspAt.keep {w w' : World} {x : Nat} (h : JspAt w x) (hb : Below w.heap.size w w') : JspAt w' x := (hb.block x (Array.getElem?_eq_some_iff.1 h).1).trans h
theorem JspAt.cells {w : World} {x : Nat} (h : JspAt w x) : w.cell? ⟨x, 0, none⟩ = some (.int .i64 1) ∧ w.cell? ⟨x, 1, none⟩ = some (.int .i64 1) ∧ w.cell? ⟨x, 2, none⟩ = some (.string ⟨#[44]⟩) ∧ w.cell? ⟨x, 3, none⟩ = some (.bool false) ∧ w.cell? ⟨x, 4, none⟩ = some (.bool false) ∧ w.cell? ⟨x, 5, none⟩ = some (.bool false) ∧ w.cell? ⟨x, 6, none⟩ = some (.string ⟨#[]⟩) ∧ w.cell? ⟨x, 7, none⟩ = some (.slice none 0 0) := by
  unfold JspAt at h
  refine ⟨?_, ?_, ?_, ?_, ?_, ?_, ?_, ?_⟩ <;> simp [World.cell?, h]
set_option maxRecDepth 100000 in
set_option maxHeartbeats 3200000 in
theorem joined_any (w : World) :
    Calls Tryz.prog 27 #[joinV] w fun e w' => e = .returned (.int .i64 0) ∧ Below w.heap.size w w' := by
  obtain ⟨x, hx⟩ : ∃ x, x = w.heap.size := ⟨_, rfl⟩
  obtain ⟨W0, hW0⟩ : ∃ W0, W0 = w.alloc (.cells #[.int .i64 1, .int .i64 1, .string ⟨#[44]⟩, .bool false, .bool false, .bool false, .string ⟨#[]⟩, .slice none 0 0] 44) := ⟨_, rfl⟩
  have HB0 : Hid (Below w.heap.size w W0) := Lib.hid (by rw [hW0]; exact (Below.refl _ w).alloc (Nat.le_refl _) _)
  have HX : Hid (JspAt W0 x) := Lib.hid (by rw [hW0, hx]; exact heap_alloc_new w _)
  have HWE := Lib.hid hW0
  have HXE := Lib.hid hx
  clear hW0 hx
  obtain ⟨x0, x1, x2, x3, x4, x5, x6, x7⟩ := HX.out.cells
  have e0 : Lib.indexByte (⟨#[]⟩ : ByteArray).data.toList 10 = -1 := rfl
  have HCN := Lib.hid (fun W => Tryz.strings_Contains_one ⟨#[]⟩ 10 W)
  rw [e0] at HCN
  go_enter Tryz.func27, Tryz.ntmps27
  go_upto_region 1 with fail
  rw [← HXE.out, ← HWE.out]
  go_wp2_with (first | (go_at_call 41; refine (within_yes _ _ _ _ (by decide) (by decide)).mono ?_; rintro e w5 ⟨rfl, rfl⟩) | (go_at_call 17; refine (HCN.out _).mono ?_; rintro e w5 ⟨rfl, rfl⟩))
  go_loopw [39] (fun s39 wr => s39 = .int .i64 0 ∧ Hid (Below w.heap.size w wr)) (fun _ _ => 0)
  case atStart => exact ⟨rfl, HB0⟩
  case round =>
    obtain ⟨rfl, hwr⟩ := hrel
    go_wp2_with fail
    go_ret
    exact ⟨rfl, hwr.out⟩
end Go.Proofs.YtppnhdcnjbjibaaGreatDoor
