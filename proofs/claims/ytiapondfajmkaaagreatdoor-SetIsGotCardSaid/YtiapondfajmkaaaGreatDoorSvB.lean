/- Shell states: how many bytes arguments and variables have. -/
import Derived.Test.YtiapondfajmkaaaGreatDoorSvA
namespace Go.Proofs.YtiapondfajmkaaaGreatDoor
open Go.RowKit

theorem sv_box_cell (w : World) (cs : Array Value) (T : TypeId) (j : Nat) : (w.alloc (.cells cs T)).cell? ⟨w.heap.size, j, none⟩ = cs[j]? := cell_of_row _ _ _ _ _ _ (heap_alloc_new w _)
/-- a box of cells, and what has stayed -/
structure Bxc (w0 : World) (bx : Nat) (cs : Array Value) (w : World) : Prop where
  below : Below w0.heap.size w0 w
  lt : bx < w.heap.size
  cells : ∀ j, w.cell? ⟨bx, j, none⟩ = cs[j]?
theorem Bxc.start (w : World) (cs : Array Value) (T : TypeId) : Bxc w w.heap.size cs (w.alloc (.cells cs T)) := ⟨(Below.refl _ _).alloc (Nat.le_refl _) _, by simp, sv_box_cell w cs T⟩
theorem Bxc.keep {w0 w w' : World} {bx : Nat} {cs : Array Value} (h : Bxc w0 bx cs w) (hb : Below w.heap.size w w') : Bxc w0 bx cs w' :=
  ⟨h.below.trans (hb.mono h.below.size), Nat.lt_of_lt_of_le h.lt hb.size, fun j => (hb.cell (p := ⟨bx, j, none⟩) h.lt).trans (h.cells j)⟩
theorem SL.at {w : World} {A : Option Addr} {n c : Nat} {l : List ByteArray} (h : SL w (.slice A n c) l) (i : Nat) (hi : i < l.length) : ∃ b off, A = some ⟨b, off, none⟩ ∧ b < w.heap.size ∧ w.cell? ⟨b, off + i, none⟩ = some (.string l[i]) := by
  obtain ⟨A', c', e, hc, _, h⟩ := h
  injection e with e1 _ _
  obtain ⟨b, off, hA, hlt, hcell⟩ := h (by omega)
  exact ⟨b, off, e1.trans hA, hlt, hcell i hi⟩
theorem sumS_take {l : List ByteArray} {k : Nat} (h : k < l.length) : sumS (l.take (k + 1)) = sumS (l.take k) + l[k].size := by
  unfold sumS
  rw [List.take_succ_eq_append_getElem h, List.map_append, List.sum_append]
  simp
theorem sumS_le (l : List ByteArray) (k : Nat) : sumS (l.take k) ≤ sumS l := by
  have : sumS l = sumS (l.take k) + sumS (l.drop k) := by
    unfold sumS
    rw [← List.sum_append, ← List.map_append, List.take_append_drop]
  omega
def sumV (l : List VarV) : Nat := (l.map sizeV).sum
theorem sumV_take {l : List VarV} {k : Nat} (h : k < l.length) : sumV (l.take (k + 1)) = sumV (l.take k) + sizeV l[k] := by
  unfold sumV
  rw [List.take_succ_eq_append_getElem h, List.map_append, List.sum_append]
  simp
theorem sumV_le (l : List VarV) (k : Nat) : sumV (l.take k) ≤ sumV l := by
  have : sumV l = sumV (l.take k) + sumV (l.drop k) := by
    unfold sumV
    rw [← List.sum_append, ← List.map_append, List.take_append_drop]
  omega
theorem sizeS_eq (S : ShV) : sizeS S = sumS S.ar + sumV S.vs := rfl
/-- no list of a state is too long, and not too many bytes -/
structure Small (S : ShV) : Prop where
  ar : S.ar.length ≤ 2000
  vs : S.vs.length ≤ 2000
  ls : ∀ v ∈ S.vs, v.ls.length ≤ 2000
  sz : sizeS S ≤ 4611686018427387904
def SizeP (S : ShV) (w : World) (e : Ending) (w' : World) : Prop := e = .returned (.int .i64 ((sizeS S : Nat) : Int)) ∧ Below w.heap.size w w'
set_option maxRecDepth 100000 in
set_option maxHeartbeats 3200000 in
theorem size_any (S : ShV) (p : ShP) (w : World) (hm : ShM w S p) (hs : Small S) : Calls Tryz.prog 29 #[.agg (cellsS S p)] w (SizeP S w) := by
  obtain ⟨⟨arA, arn, arc⟩, ⟨vA, vn, vc⟩⟩ := p
  obtain ⟨har, hvs⟩ := hm
  obtain rfl := SL.len har
  obtain ⟨rfl, _, _, hvat⟩ := VL.at hvs
  obtain ⟨Q, hQ⟩ : ∃ Q, SizeP S w = Q := ⟨_, rfl⟩
  rw [hQ]
  have HQ := Lib.hid hQ
  have HAR := Lib.hid har
  have HVS := Lib.hid hvs
  have HVA := Lib.hid hvat
  have HS := Lib.hid hs
  have ha := hs.ar
  have hv := hs.vs
  clear hQ har hvs hvat hs
  have HB0 : Hid (Bxc w w.heap.size (cellsS S ⟨(arA, S.ar.length, arc), (vA, S.vs.length, vc)⟩) (w.alloc (.cells #[.string S.nm, .slice arA S.ar.length arc, .slice vA S.vs.length vc, .slice none 0 0, .slice none 0 0, .int .i64 S.op, .int .i64 S.st, .int .i64 S.msk, .string S.dr] 28))) := Lib.hid (Bxc.start w _ _)
  show Calls _ _ #[.agg #[.string S.nm, .slice arA S.ar.length arc, .slice vA S.vs.length vc, .slice none 0 0, .slice none 0 0, .int .i64 S.op, .int .i64 S.st, .int .i64 S.msk, .string S.dr]] w Q
  go_enter Tryz.func29, Tryz.ntmps29
  go_wp2_with fail
  go_loopw [3, 13] (fun s3 s13 wr => ∃ k n : Nat, s13 = .int .i64 (k : Int) ∧ s3 = .int .i64 (n : Int) ∧ Hid (n = sumS (S.ar.take k)) ∧ Hid (k ≤ S.ar.length) ∧ Hid (Bxc w w.heap.size (cellsS S ⟨(arA, S.ar.length, arc), (vA, S.vs.length, vc)⟩) wr)) (fun _ s13 _ => S.ar.length - (intOf s13).toNat)
  case atStart => exact ⟨0, 0, rfl, rfl, Lib.hid rfl, Lib.hid (Nat.zero_le _), HB0⟩
  case round =>
    clear HB0
    obtain ⟨k, n, rfl, rfl, HN, HK, HB⟩ := hrel
    by_cases hlt : k < S.ar.length
    · obtain ⟨b, off, hA, hb, c0⟩ := SL.at (HAR.out.keep HB.out.below) k hlt
      subst hA
      have HN1 := Lib.hid (show n + S.ar[k].size = sumS (S.ar.take (k + 1)) by rw [sumS_take hlt, HN.out])
      have hbd : n + S.ar[k].size ≤ 4611686018427387904 := by
        have h1 := HN1.out
        have h2 := sumS_le S.ar (k + 1)
        have h3 := HS.out.sz
        rw [sizeS_eq] at h3
        omega
      generalize S.ar[k] = x at *
      have e1 : IntKind.i64.wrap ((n : Int) + (x.size : Int)) = ((n + x.size : Nat) : Int) := IntWalk.i64_in _ (by omega)
      have hltz : (k : Int) < (S.ar.length : Int) := by omega
      have hk1 : IntKind.i64.wrap ((k : Int) + 1) = ((k + 1 : Nat) : Int) := IntWalk.i64_in _ (by omega)
      have HK1 := Lib.hid (show k + 1 ≤ S.ar.length from hlt)
      go_wp2_with fail
      go_roundw
      case rel => exact ⟨k + 1, n + x.size, by simp, by simp, HN1, HK1, HB⟩
      case measure => simp [intOf]; omega
    · have hltz : ¬ (k : Int) < (S.ar.length : Int) := by omega
      have HN0 := Lib.hid (show n = sumS S.ar by rw [HN.out, List.take_of_length_le (by omega)])
      have b2 : wr.cell? ⟨w.heap.size, 2, none⟩ = some (.slice vA S.vs.length vc) := HB.out.cells 2
      clear HN HK
      generalize hwq : wr = wq at *
      clear hwq
      go_wp2_with fail
      go_loopw [3, 25] (fun s3 s25 wr => ∃ k m : Nat, s25 = .int .i64 (k : Int) ∧ s3 = .int .i64 (m : Int) ∧ Hid (m = n + sumV (S.vs.take k)) ∧ Hid (k ≤ S.vs.length) ∧ Hid (Bxc w w.heap.size (cellsS S ⟨(arA, S.ar.length, arc), (vA, S.vs.length, vc)⟩) wr)) (fun _ s25 _ => S.vs.length - (intOf s25).toNat)
      case atStart => exact ⟨0, n, rfl, rfl, Lib.hid rfl, Lib.hid (Nat.zero_le _), HB⟩
      case round =>
        clear HB
        obtain ⟨k, m, rfl, rfl, HM, HK, HB⟩ := hrel
        by_cases hlt2 : k < S.vs.length
        · obtain ⟨_, _, _, hat⟩ := VL.at (HVS.out.keep HB.out.below)
          obtain ⟨b, off, sl, hA, hb, hsl, c0, c1, c2, c3, c4, c5⟩ := hat k hlt2
          clear hat
          subst hA
          have hM1 : m + sizeV S.vs[k] = n + sumV (S.vs.take (k + 1)) := by rw [sumV_take hlt2, HM.out]; omega
          have hbd : m + sizeV S.vs[k] ≤ 4611686018427387904 := by
            have h2 := sumV_le S.vs (k + 1)
            have h3 := HS.out.sz
            have h4 := HN0.out
            rw [sizeS_eq] at h3
            omega
          have hll : S.vs[k].ls.length ≤ 2000 := HS.out.ls _ (List.getElem_mem hlt2)
          generalize S.vs[k] = x at *
          obtain ⟨xn, xv, xi, xl, xe, xf⟩ := x
          obtain ⟨lA, ln, lc⟩ := sl
          obtain rfl := SL.len hsl
          unfold sizeV at hM1 hbd
          simp only [] at hM1 hbd hsl hll c0 c1 c2 c3 c4 c5
          unfold sv at c3
          have HSL := Lib.hid hsl
          have HM1 := Lib.hid hM1
          have e1 : IntKind.i64.wrap ((xn.size : Int) + (xv.size : Int)) = ((xn.size + xv.size : Nat) : Int) := IntWalk.i64_in _ (by omega)
          have e2 : IntKind.i64.wrap ((m : Int) + ((xn.size + xv.size : Nat) : Int)) = ((m + (xn.size + xv.size) : Nat) : Int) := IntWalk.i64_in _ (by omega)
          have hltz : (k : Int) < (S.vs.length : Int) := by omega
          have hk1 : IntKind.i64.wrap ((k : Int) + 1) = ((k + 1 : Nat) : Int) := IntWalk.i64_in _ (by omega)
          have HK1 := Lib.hid (show k + 1 ≤ S.vs.length from hlt2)
          have HBn := Lib.hid (HB.out.keep ((Below.refl _ wr).alloc (Nat.le_refl _) (.cells #[.string xn, .string xv, .bool xi, .slice lA xl.length lc, .bool xe, .bool xf] 32)))
          have HSLn := Lib.hid (hsl.keep ((Below.refl _ wr).alloc (Nat.le_refl _) (.cells #[.string xn, .string xv, .bool xi, .slice lA xl.length lc, .bool xe, .bool xf] 32)))
          clear hsl hM1 HM HK HSL
          go_wp2_with fail
          clear c0 c1 c2 c3 c4 c5 HB
          generalize hwy : wr.alloc (.cells #[.string xn, .string xv, .bool xi, .slice lA xl.length lc, .bool xe, .bool xf] 32) = wy at *
          clear hwy
          go_loopw [3, 41] (fun s3 s41 wr => ∃ j q : Nat, s41 = .int .i64 (j : Int) ∧ s3 = .int .i64 (q : Int) ∧ Hid (q = m + (xn.size + xv.size) + sumS (xl.take j)) ∧ Hid (j ≤ xl.length) ∧ wr = wy) (fun _ s41 _ => xl.length - (intOf s41).toNat)
          case atStart => exact ⟨0, m + (xn.size + xv.size), rfl, by simp, Lib.hid rfl, Lib.hid (Nat.zero_le _), rfl⟩
          case round =>
            obtain ⟨j, q, rfl, rfl, HQQ, HJ, rfl⟩ := hrel
            by_cases hlt3 : j < xl.length
            · obtain ⟨b3, off3, hA3, hb3, d0⟩ := SL.at HSLn.out j hlt3
              subst hA3
              have HQ1 := Lib.hid (show q + xl[j].size = m + (xn.size + xv.size) + sumS (xl.take (j + 1)) by rw [sumS_take hlt3, HQQ.out]; omega)
              have hbd3 : q + xl[j].size ≤ 4611686018427387904 := by
                have h1 := HQ1.out
                have h2 := sumS_le xl (j + 1)
                omega
              generalize xl[j] = y at *
              have e3 : IntKind.i64.wrap ((q : Int) + (y.size : Int)) = ((q + y.size : Nat) : Int) := IntWalk.i64_in _ (by omega)
              have hltz3 : (j : Int) < (xl.length : Int) := by omega
              have hj1 : IntKind.i64.wrap ((j : Int) + 1) = ((j + 1 : Nat) : Int) := IntWalk.i64_in _ (by omega)
              have HJ1 := Lib.hid (show j + 1 ≤ xl.length from hlt3)
              go_wp2_with fail
              go_roundw
              case rel => exact ⟨j + 1, q + y.size, by simp, by simp, HQ1, HJ1, by trivial⟩
              case measure => simp [intOf]; omega
            · have hltz3 : ¬ (j : Int) < (xl.length : Int) := by omega
              have HQ1 := Lib.hid (show q = n + sumV (S.vs.take (k + 1)) by rw [← HM1.out, HQQ.out, List.take_of_length_le (by omega)]; omega)
              clear HQQ HJ
              go_wp2_with fail
              refine ⟨⟨k + 1, q, by simp, rfl, HQ1, HK1, HBn⟩, ?_⟩
              simp [intOf]
              omega
        · have hltz : ¬ (k : Int) < (S.vs.length : Int) := by omega
          have HFIN := Lib.hid (show SizeP S w (.returned (.int .i64 (m : Int))) wr from ⟨by rw [sizeS_eq, HM.out, HN0.out, List.take_of_length_le (by omega)], HB.out.below⟩)
          go_wp2_with fail
          rw [← HQ.out]
          exact HFIN.out
end Go.Proofs.YtiapondfajmkaaaGreatDoor
