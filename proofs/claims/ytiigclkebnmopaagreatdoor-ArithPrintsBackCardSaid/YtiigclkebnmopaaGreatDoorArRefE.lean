/- Arithmetic expressions: the reference's atom. (Printed by tools/gratom.py.) -/
import Derived.Test.YtiigclkebnmopaaGreatDoorArRefD
import Derived.Test.YtiigclkebnmopaaGreatDoorArPre
import Derived.Test.YtiigclkebnmopaaGreatDoorArCls
import Derived.Test.YtiigclkebnmopaaGreatDoorArRefA
import Derived.Defers
import Derived.Recover
namespace Go.Proofs.YtiigclkebnmopaaGreatDoor
open Go.RowKit Go.Shelf

end Go.Proofs.YtiigclkebnmopaaGreatDoor

namespace Go.Proofs.YtiigclkebnmopaaGreatDoor
open Go.RowKit Go.Shelf

end Go.Proofs.YtiigclkebnmopaaGreatDoor

namespace Go.Proofs.YtiigclkebnmopaaGreatDoor
open Go.RowKit Go.Shelf

set_option maxRecDepth 100000 in
set_option maxHeartbeats 3200000 in
theorem rdepth_step (P : Nat → Prop) (op nm : List UInt8) (nn : Int) (l : List Ex) (v : Value) (w : World) (hx : ExV P w v (.mk op nn nm l)) (hl : l.length ≤ 1048576) (hs : Ex.depths l ≤ 1048576)
    (IH : ∀ y ∈ l, ∀ (v : Value) (W : World), ExV P W v y → Calls Tryz.prog 32 #[v] W fun e W' => e = .returned (.int .i64 (y.depth : Int)) ∧ Below W.heap.size W W') :
    Calls Tryz.prog 32 #[v] w fun e w' => e = .returned (.int .i64 ((Ex.mk op nn nm l).depth : Int)) ∧ Below w.heap.size w w' := by
  obtain ⟨A, c, rfl, hc, hA⟩ : ∃ A c, v = .agg #[.string (toB op), .int .i64 (nn : Int), .string (toB nm), .slice A l.length c] ∧ l.length ≤ c ∧ (0 < l.length → ∃ g off, A = some ⟨g, off, none⟩ ∧ P g ∧ g < w.heap.size ∧ ExL P w g off l) := by
    unfold ExV at hx
    exact hx
  have ba := (Below.refl w.heap.size w).alloc (Nat.le_refl _) (.cells #[.string (toB op), .int .i64 (nn : Int), .string (toB nm), .slice A l.length c] 25)
  have HB := Lib.hid ba
  have F := Lib.hid (Four.new w (.string (toB op)) (.int .i64 (nn : Int)) (.string (toB nm)) (.slice A l.length c))
  rw [show (Ex.mk op nn nm l).depth = Ex.depths l + 1 by simp [Ex.depth]]
  obtain ⟨Q, hQ⟩ : ∃ Q, (fun (e : Ending) (w' : World) => e = .returned (.int .i64 ((Ex.depths l + 1 : Nat) : Int)) ∧ Below w.heap.size w w') = Q := ⟨_, rfl⟩
  rw [hQ]
  have HQ := Lib.hid hQ
  have HA := Lib.hid (show 0 < l.length → ∃ g off, A = some ⟨g, off, none⟩ ∧ P g ∧ g < (w.alloc (.cells #[.string (toB op), .int .i64 (nn : Int), .string (toB nm), .slice A l.length c] 25)).heap.size ∧ ExL P (w.alloc (.cells #[.string (toB op), .int .i64 (nn : Int), .string (toB nm), .slice A l.length c] 25)) g off l from fun h => by
    obtain ⟨g, off, h1, h2, h3, h4⟩ := hA h
    exact ⟨g, off, h1, h2, Nat.lt_of_lt_of_le h3 ba.size, ExL.keep (P := P) (Q := P) ba.size (fun g hP hg => ⟨ba.block g hg, hP⟩) (ba.block g h3) l h4⟩)
  have HI := Lib.hid IH
  clear hQ hA IH hx ba
  go_enter Tryz.func32, Tryz.ntmps32
  obtain ⟨c0, c1, c2, c3, cf⟩ := F.out.cells
  go_wp2_with fail
  generalize w.alloc (.cells #[.string (toB op), .int .i64 (nn : Int), .string (toB nm), .slice A l.length c] 25) = w1 at *
  clear c0 c1 c2 c3 cf F
  go_loopw [3, 9] (fun s3 s9 wr => ∃ (k m : Nat), s3 = .int .i64 (m : Int) ∧ s9 = .int .i64 (k : Int) ∧ k ≤ l.length ∧ max m (Ex.depths (l.drop k)) = Ex.depths l ∧ Hid (0 < l.length → ∃ g off, A = some ⟨g, off, none⟩ ∧ P g ∧ g < wr.heap.size ∧ ExL P wr g off l) ∧ Hid (Below w.heap.size w wr)) (fun _ s9 _ => l.length - (intOf s9).toNat)
  case atStart => exact ⟨0, 0, rfl, rfl, Nat.zero_le _, by simp, HA, HB⟩
  case round =>
    clear HA HB
    obtain ⟨k, m, rfl, rfl, hk, hmx, HA, HB⟩ := hrel
    by_cases hlt : k < l.length
    · obtain ⟨g, off, rfl, hPg, hg, hL⟩ := HA.out (by omega)
      have hdr : l.drop k = l[k] :: l.drop (k + 1) := List.drop_eq_getElem_cons hlt
      have hLk := exl_at (k := k) hL
      have hmem := List.getElem_mem hlt
      rw [hdr] at hLk
      rw [hdr, depths_cons] at hmx
      unfold ExL at hLk
      obtain ⟨⟨v0, v1, v2, v3, k0, k1, k2, k3, hx⟩, hrest⟩ := hLk
      generalize l[k] = y at *
      rw [show off + 4 * k = off + k * 4 by omega] at k0 k1 k2 k3
      obtain ⟨n5, A5, k5, c5, nm5, hv, hnm⟩ := hx.form
      clear hnm
      simp only [Value.agg.injEq, Array.mk.injEq, List.cons.injEq, and_true] at hv
      obtain ⟨rfl, rfl, rfl, rfl⟩ := hv
      have ba := (Below.refl wr.heap.size wr).alloc (Nat.le_refl _) (.cells #[.string (toB y.op), .int .i64 (n5 : Int), .string (toB nm5), .slice A5 k5 c5] 25)
      have HX := Lib.hid (hx.below ba)
      have HB2 := Lib.hid (HB.out.trans (ba.mono HB.out.size))
      have HL2 := Lib.hid (ExL.keep (P := P) (Q := P) ba.size (fun g hP hg => ⟨ba.block g hg, hP⟩) (ba.block g hg) l hL)
      have hg2 : g < (wr.alloc (.cells #[.string (toB y.op), .int .i64 (n5 : Int), .string (toB nm5), .slice A5 k5 c5] 25)).heap.size := Nat.lt_of_lt_of_le hg ba.size
      have HI2 := Lib.hid (fun W => HI.out y hmem (.agg #[.string (toB y.op), .int .i64 (n5 : Int), .string (toB nm5), .slice A5 k5 c5]) W)
      clear hdr hrest hx hL ba hmem
      go_wp2_with fail
      generalize wr.alloc (.cells #[.string (toB y.op), .int .i64 (n5 : Int), .string (toB nm5), .slice A5 k5 c5] 25) = w2 at *
      clear k0 k1 k2 k3
      refine (HI2.out w2 HX.out).mono ?_
      rintro e w3 ⟨rfl, hb3⟩
      have HB3 := Lib.hid (HB2.out.trans (hb3.mono HB2.out.size))
      have HL3 := Lib.hid (show 0 < l.length → ∃ g' off', some (⟨g, off, none⟩ : Addr) = some ⟨g', off', none⟩ ∧ P g' ∧ g' < w3.heap.size ∧ ExL P w3 g' off' l from fun _ => ⟨g, off, rfl, hPg, Nat.lt_of_lt_of_le hg2 hb3.size, ExL.keep (P := P) (Q := P) hb3.size (fun g hP' hg => ⟨hb3.block g hg, hP'⟩) (hb3.block g hg2) l HL2.out⟩)
      clear hb3
      generalize y.depth = dy at *
      go_wp2_with fail
      exact ⟨⟨k + 1, max m dy, (by congr 1; omega), by go_num, by omega, by omega, HL3, HB3⟩, by simp [intOf]; omega⟩
    · obtain rfl : k = l.length := by omega
      rw [List.drop_length] at hmx
      have hm2 : m = Ex.depths l := by rw [← hmx]; simp [Ex.depths]
      have e1 : IntKind.i64.wrap ((m : Int) + 1) = (m : Int) + 1 := IntWalk.i64_in _ (by omega)
      clear hmx
      subst hm2
      go_wp2_with fail
      rw [← HQ.out]
      exact ⟨by simp, HB.out⟩
theorem depth_size : ∀ (N : Nat) (x : Ex), x.size ≤ N → x.depth ≤ x.size
  | 0, x, h => by have := size_pos x; omega
  | N + 1, .mk op nn nm l, h => by
    have h1 : (Ex.mk op nn nm l).size = Ex.sizes l + 1 := by simp [Ex.size]
    have h2 : (Ex.mk op nn nm l).depth = Ex.depths l + 1 := by simp [Ex.depth]
    have h3 : ∀ (l : List Ex), Ex.sizes l ≤ N → Ex.depths l ≤ Ex.sizes l := by
      intro l
      induction l with
      | nil => intro _; simp [Ex.depths]
      | cons x l ih =>
        intro h
        rw [sizes_cons] at h ⊢
        rw [depths_cons]
        have := depth_size N x (by omega)
        have := ih (by omega)
        omega
    have := h3 l (by omega)
    omega
theorem rdepth_any (P : Nat → Prop) : ∀ (N : Nat) (x : Ex), x.size ≤ N → N ≤ 1048576 → ∀ (v : Value) (w : World), ExV P w v x →
    Calls Tryz.prog 32 #[v] w fun e w' => e = .returned (.int .i64 (x.depth : Int)) ∧ Below w.heap.size w w'
  | 0, x, hN, _, _, _, _ => by have := size_pos x; omega
  | N + 1, .mk op nn nm l, hN, hB, v, w, hx => by
    have hsz : (Ex.mk op nn nm l).size = Ex.sizes l + 1 := by simp [Ex.size]
    have hl := len_sizes l
    have hd := depth_size (N + 1) (.mk op nn nm l) hN
    have h2 : (Ex.mk op nn nm l).depth = Ex.depths l + 1 := by simp [Ex.depth]
    refine rdepth_step P op nm nn l v w hx (by omega) (by omega) ?_
    intro y hy v' W hx'
    exact rdepth_any P N y (by have := size_mem hy; omega) (by omega) v' W hx'

end Go.Proofs.YtiigclkebnmopaaGreatDoor

namespace Go.Proofs.YtiigclkebnmopaaGreatDoor
open Go.RowKit

/-- where the results of guard lie -/
structure GB (w : World) (x y : Nat) (a c : Int) : Prop where
  fst : One w x 3 (.int .i64 a)
  snd : One w y 26 (.int .i64 c)
  ne : x ≠ y
/-- two blocks alone, and new ones, have changed -/
structure Only2 (x y : Nat) (w w' : World) : Prop where
  os : w'.os = w.os
  tape : w'.tape = w.tape
  output : w'.output = w.output
  size : w.heap.size ≤ w'.heap.size
  block : ∀ k, k < w.heap.size → k ≠ x → k ≠ y → w'.heap[k]? = w.heap[k]?
theorem Only2.refl (x y : Nat) (w : World) : Only2 x y w w := ⟨rfl, rfl, rfl, Nat.le_refl _, fun _ _ _ _ => rfl⟩
theorem Only2.trans {x y : Nat} {a w w' : World} (h : Only2 x y a w) (k : Only2 x y w w') : Only2 x y a w' :=
  ⟨k.os.trans h.os, k.tape.trans h.tape, k.output.trans h.output, Nat.le_trans h.size k.size, fun j hj hx hy => (k.block j (Nat.lt_of_lt_of_le hj h.size) hx hy).trans (h.block j hj hx hy)⟩
theorem Only2.one {x y z : Nat} {w w' : World} (h : Only z w w') (hz : z = x ∨ z = y) : Only2 x y w w' :=
  ⟨h.os, h.tape, h.output, h.size, fun k hk hx hy => h.block k hk (fun e => by rcases hz with rfl | rfl <;> contradiction)⟩
theorem Only2.below {x y : Nat} {w w' : World} (h : Below w.heap.size w w') : Only2 x y w w' :=
  ⟨h.os, h.tape, h.output, h.size, fun k hk _ _ => h.block k hk⟩
theorem GB.set {w : World} {x y : Nat} {a c : Int} (h : GB w x y a c) (a' c' : Int) : GB ((w.setCell ⟨x, 0, none⟩ (.int .i64 a')).setCell ⟨y, 0, none⟩ (.int .i64 c')) x y a' c' := by
  have O1 := (Only.refl x w).setCell (i := 0) (.int .i64 a')
  have O2 := (Only.refl y (w.setCell ⟨x, 0, none⟩ (.int .i64 a'))).setCell (i := 0) (.int .i64 c')
  exact ⟨(h.fst.set (.int .i64 a')).only O2 h.ne, (h.snd.only O1 (Ne.symm h.ne)).set (.int .i64 c'), h.ne⟩

end Go.Proofs.YtiigclkebnmopaaGreatDoor

namespace Go.Proofs.YtiigclkebnmopaaGreatDoor
open Go.RowKit Go.Shelf

def allR (T : List UInt8) : Out := (parseR (40 * T.length + 40) .expr T).bind endR
/-- the variables of strconv's errors lie there -/
def EX (w : World) : Prop := 7 < w.heap.size ∧ (∃ v, w.cell? ⟨6, 0, none⟩ = some v ∧ isErr v) ∧ (∃ v, w.cell? ⟨7, 0, none⟩ = some v ∧ isErr v)
theorem RRd.new (w : World) (T : List UInt8) (hT : T.length ≤ 16384) (hz : (0 : UInt8) ∉ T) : RRd (w.alloc (.cells #[.string (toB T), .int .i64 0, .slice none 0 0, .bool false, .pointer none, .bool false] 70)) w.heap.size T T :=
  ⟨⟨0, false, by simp, heap_alloc_new w _⟩, ⟨[], rfl⟩, hT, hz⟩
end Go.Proofs.YtiigclkebnmopaaGreatDoor
