/- The reference's Rows hands back the same rows and numbers, for every text below 4 GiB and every width. -/
import Derived.Test.YtokmiommhfbkeaaGreatDoorRowsRef
import Derived.LoopN
namespace Go.Proofs.YtokmiommhfbkeaaGreatDoor
open Go.RowKit

/-- the boxes between two lines -/
structure RO (w : World) (B b2 b3 b4 : Nat) (wide : Int) (rows : List ByteArray) (nums : List Int) (v1 v2 : Value) : Prop where
  k2 : w.heap[b2]? = some (.cells #[.int .i64 wide] 3 (0, 0))
  k3 : w.heap[b3]? = some (.cells #[v1] 22 (0, 0))
  k4 : w.heap[b4]? = some (.cells #[v2] 69 (0, 0))
  o1 : w.ownsRow B 9 1 v1 rows.length (rows.map Value.string)
  o2 : w.ownsRow B 3 1 v2 nums.length (nums.map (Value.int .i64))
  n2 : some b2 ≠ v2.ownBlock
  d : B ≤ b3 ∧ B ≤ b4

theorem RL.out {w : World} {B b1 b2 b3 b4 b5 b6 : Nat} {wide n : Int} {x : St} {col : Nat} {v1 v2 : Value} (h : RL w B b1 b2 b3 b4 b5 b6 wide n x col v1 v2) : RO w B b2 b3 b4 wide x.1 x.2.1 v1 v2 :=
  ⟨h.k2, h.k3, h.k4, h.o1, h.o2, h.n2, h.d.2.1, h.d.2.2.1⟩

/-- a line's three boxes -/
theorem RO.open {w : World} {B b2 b3 b4 : Nat} {wide n : Int} {rows : List ByteArray} {nums : List Int} {v1 v2 : Value} (h : RO w B b2 b3 b4 wide rows nums v1 v2) (hB : B ≤ w.heap.size) :
    RL (((w.alloc (.cells #[.int .i64 n] 3)).alloc (.cells #[.string ⟨#[]⟩] 9)).alloc (.cells #[.int .i64 0] 3)) B (w.heap.size + 1) b2 b3 b4 w.heap.size (w.heap.size + 2) wide n (rows, nums, []) 0 v1 v2 := by
  have old : ∀ {b : Nat} {o : Obj}, w.heap[b]? = some o → (((w.alloc (.cells #[.int .i64 n] 3)).alloc (.cells #[.string ⟨#[]⟩] 9)).alloc (.cells #[.int .i64 0] 3)).heap[b]? = some o := fun hb => by
    have := lt_some hb
    rw [heap_alloc_old _ _ (by simp; omega), heap_alloc_old _ _ (by simp; omega), heap_alloc_old _ _ this]
    exact hb
  have l2 := lt_some h.k2
  have f1 : ∀ k, w.heap.size ≤ k → some k ≠ v1.ownBlock := fun k hk e => by have := (h.o1.lt k e.symm).2; omega
  have f2 : ∀ k, w.heap.size ≤ k → some k ≠ v2.ownBlock := fun k hk e => by have := (h.o2.lt k e.symm).2; omega
  exact {
    k1 := by rw [heap_alloc_old _ _ (by simp)]; exact (show (w.alloc (.cells #[.int .i64 n] 3)).heap.size = w.heap.size + 1 by simp) ▸ heap_alloc_new _ _
    k2 := old h.k2
    k3 := old h.k3
    k4 := old h.k4
    k5 := by rw [heap_alloc_old _ _ (by simp; omega), heap_alloc_old _ _ (by simp)]; exact heap_alloc_new _ _
    k6 := (show ((w.alloc (.cells #[.int .i64 n] 3)).alloc (.cells #[.string ⟨#[]⟩] 9)).heap.size = w.heap.size + 2 by simp) ▸ heap_alloc_new _ _
    o1 := ((h.o1.alloc _).alloc _).alloc _
    o2 := ((h.o2.alloc _).alloc _).alloc _
    n1 := f1 _ (by omega)
    n2 := h.n2
    n5 := f2 _ (by omega)
    n6 := f2 _ (by omega)
    d := ⟨by omega, h.d.1, h.d.2, by omega, by omega, by omega⟩ }

theorem RL.keep {w w' : World} {B b1 b2 b3 b4 b5 b6 : Nat} {wide n : Int} {x : St} {col : Nat} {v1 v2 : Value} (h : RL w B b1 b2 b3 b4 b5 b6 wide n x col v1 v2) (hb : Below w.heap.size w w') : RL w' B b1 b2 b3 b4 b5 b6 wide n x col v1 v2 := by
  have hg : w.grownBy w' none := ⟨hb.os, hb.tape, hb.output, hb.size, fun k hk _ => hb.block k hk⟩
  exact ⟨(hb.block _ (lt_some h.k1)).trans h.k1, (hb.block _ (lt_some h.k2)).trans h.k2, (hb.block _ (lt_some h.k3)).trans h.k3, (hb.block _ (lt_some h.k4)).trans h.k4, (hb.block _ (lt_some h.k5)).trans h.k5, (hb.block _ (lt_some h.k6)).trans h.k6,
    h.o1.kept hg (by cases v1.ownBlock <;> simp), h.o2.kept hg (by cases v2.ownBlock <;> simp), h.n1, h.n2, h.n5, h.n6, h.d⟩

theorem RO.new {w : World} {b2 : Nat} {wide : Int} (k2 : w.heap[b2]? = some (.cells #[.int .i64 wide] 3 (0, 0))) :
    RO ((w.alloc (.cells #[.slice none 0 0] 22)).alloc (.cells #[.slice none 0 0] 69)) w.heap.size b2 w.heap.size (w.heap.size + 1) wide [] [] (.slice none 0 0) (.slice none 0 0) where
  k2 := by have := lt_some k2; rw [heap_alloc_old _ _ (by simp; omega), heap_alloc_old _ _ this]; exact k2
  k3 := by rw [heap_alloc_old _ _ (by simp)]; exact heap_alloc_new _ _
  k4 := (show (w.alloc (.cells #[.slice none 0 0] 22)).heap.size = w.heap.size + 1 by simp) ▸ heap_alloc_new _ _
  o1 := World.ownsRow_nil _ _ _ _
  o2 := World.ownsRow_nil _ _ _ _
  n2 := by simp [Value.ownBlock]
  d := ⟨Nat.le_refl _, by omega⟩

theorem rowsK_row (wide : Int) (l : List ByteArray) : ∀ k, (rowsK wide l k).2.2 = []
  | 0 => rfl
  | _ + 1 => rfl

set_option maxRecDepth 100000 in
set_option maxHeartbeats 6400000 in
theorem rrows_any (s : ByteArray) (wide : Int) (w : World) (hx : MX w) (hs : s.size < 4294967281) :
    Calls Tryz.prog 72 #[.string s, .int .i64 wide] w (RowsT w (rowsL s wide) (rowsE s wide)) := by
  have hT := Lib.hid (fun W => Tryz.strings_TrimSuffix s nl W (by omega))
  have hS := Lib.hid (fun W (hb : Below w.heap.size w W) => split_any (trimB s) W (hx.keep hb) (by have := trimB_size s; omega))
  have hlen := lines_len s
  cases h0 : s.toList.isEmpty
  · have hlin : linesL s = Lib.splitB nl 0 (Lib.countB (trimB s) nl) (trimB s) := by unfold linesL; rw [h0]; rfl
    rw [← hlin] at hS
    clear hlin
    by_cases hl : largeB s = true
    · have hE : rowsE s wide = 2 := by simp [rowsE, hl]
      rw [hE, rowsL_none (by rw [hE]; decide)]
      have hll : decide ((65536 : Int) < s.size) = true ∨ (decide ((65536 : Int) < s.size) = false ∧ decide ((4096 : Int) < (linesL s).length) = true) := by
        rw [decide_eq_true_iff, decide_eq_false_iff_not, decide_eq_true_iff]
        simp only [largeB, Bool.or_eq_true, decide_eq_true_eq] at hl
        omega
      clear hE hl
      generalize linesL s = l at *
      rcases hll with hll | ⟨hll, hll2⟩
      all_goals
        skip
        go_enter Tryz.func72, Tryz.ntmps72
        go_wp2_with fail
        refine (hT.out _).mono ?_
        rintro e w1 ⟨he, hw⟩
        subst he; subst hw
        go_wp2_with fail
        refine (hS.out _ (by exact (Below.refl _ w).alloc (Nat.le_refl _) _)).mono ?_
        rintro e w1 ⟨v, rfl, ⟨A, c, rfl, hc, hcell⟩, hb⟩
        have c2 : w1.cell? ⟨w.heap.size, 0, none⟩ = some (.int .i64 wide) := (hb.cell (p := ⟨w.heap.size, 0, none⟩) (by simp)).trans (by rw [World.cell?_alloc_at _ _ _ _ rfl]; rfl)
        have hb1 : Below w.heap.size w w1 := ((Below.refl _ w).alloc (Nat.le_refl _) (.cells #[.int .i64 wide] 3)).trans (hb.mono (by simp))
        have k2 : w1.heap[w.heap.size]? = some (.cells #[.int .i64 wide] 3 (0, 0)) := (hb.block _ (by simp)).trans (heap_alloc_new w _)
        clear hb hT hS
        clear hcell
        go_wp2
        go_ret3
        exact ⟨hb1, _, _, rfl, nil_SL _, nil_IL _⟩
    · have hl' : largeB s = false := by simpa using hl
      have hlar : s.size ≤ 65536 ∧ (linesL s).length ≤ 4096 := by simpa [largeB] using hl'
      have h2 : decide ((65536 : Int) < s.size) = false := by rw [decide_eq_false_iff_not]; omega
      have h3 : decide ((4096 : Int) < (linesL s).length) = false := by rw [decide_eq_false_iff_not]; omega
      have hsz := lines_size s
      by_cases hw : withinB wide 2 200 = true
      · have hE : rowsE s wide = 0 := by simp [rowsE, hl', hw]
        have hR : rowsL s wide = rowsK wide (linesL s) (linesL s).length := by unfold rowsL; rw [if_pos hE]
        have hw2 : 2 ≤ wide ∧ wide ≤ 200 := by simpa [withinB] using hw
        rw [hE, hR]
        clear hE hR hl hl' hw
        generalize linesL s = l at *
        go_enter Tryz.func72, Tryz.ntmps72
        go_wp2_with fail
        refine (hT.out _).mono ?_
        rintro e w1 ⟨he, hw⟩
        subst he; subst hw
        go_wp2_with fail
        refine (hS.out _ (by exact (Below.refl _ w).alloc (Nat.le_refl _) _)).mono ?_
        rintro e w1 ⟨v, rfl, ⟨A, c, rfl, hc, hcell⟩, hb⟩
        have c2 : w1.cell? ⟨w.heap.size, 0, none⟩ = some (.int .i64 wide) := (hb.cell (p := ⟨w.heap.size, 0, none⟩) (by simp)).trans (by rw [World.cell?_alloc_at _ _ _ _ rfl]; rfl)
        have hb1 : Below w.heap.size w w1 := ((Below.refl _ w).alloc (Nat.le_refl _) (.cells #[.int .i64 wide] 3)).trans (hb.mono (by simp))
        have k2 : w1.heap[w.heap.size]? = some (.cells #[.int .i64 wide] 3 (0, 0)) := (hb.block _ (by simp)).trans (heap_alloc_new w _)
        clear hb hT hS
        have HC := Lib.hid hcell
        have HF := Lib.hid (fun k hk => Fits.rowsK hw2.1 hsz k hk)
        clear hcell
        go_wp2_with fail
        go_loopw [38] (fun i wr => ∃ (k : Nat) (v1 v2 : Value), k ≤ l.length ∧ i = .int .i64 k ∧ Below w1.heap.size w1 wr ∧ RO wr w1.heap.size w.heap.size w1.heap.size (w1.heap.size + 1) wide (rowsK wide l k).1 (rowsK wide l k).2.1 v1 v2) (fun i _ => l.length - (intOf i).toNat)
        case atStart => exact ⟨0, _, _, Nat.zero_le _, rfl, ((Below.refl _ w1).alloc (Nat.le_refl _) _).alloc (by simp) _, RO.new k2⟩
        case round =>
          obtain ⟨k, v1, v2, hk, rfl, hbw, hro⟩ := hrel
          by_cases hlt : k < l.length
          · obtain ⟨b, off, rfl, hbl, hcell⟩ := HC.out (by omega)
            have hck : wr.cell? ⟨b, off + k, none⟩ = some (.string l[k]) := (hbw.cell (p := ⟨b, off + k, none⟩) hbl).trans (hcell k hlt)
            have hsk : l[k].size ≤ 65536 := Nat.le_trans (hsz _ (List.getElem_mem _)) hlar.1
            have hkm : k * (8 * s.size + 1) ≤ 4096 * (8 * 65536 + 1) := Nat.mul_le_mul (by omega) (by omega)
            have HO := Lib.hid (RO.open hro (n := k) hbw.size)
            have hst := Lib.hid (show rowsK wide l (k + 1) = lineR wide k l[k].data.toList (rowsK wide l k) by rw [← getD_at hlt]; rfl)
            have hf := HF.out k hk
            clear hro hcell hsz c2 k2
            generalize l[k] = t at *
            have hX := rowsK_row wide l k
            generalize rowsK wide l k = X at *
            obtain ⟨X1, X2, X3⟩ := X
            dsimp only at *
            subst hX
            have HFL := Lib.hid (fun j => (Fits.line (n := (k : Int)) hw2.1 (t.data.toList.take j) (k * (8 * s.size + 1)) ((X1, X2, []), 0) hf))
            have hW0 : Hid (Below w1.heap.size w1 (((wr.alloc (.cells #[.int .i64 k] 3)).alloc (.cells #[.string ⟨#[]⟩] 9)).alloc (.cells #[.int .i64 0] 3))) :=
              ((hbw.alloc hbw.size _).alloc (by have := hbw.size; simp; omega) _).alloc (by have := hbw.size; simp; omega) _
            have hls : w1.heap.size ≤ wr.heap.size := hbw.size
            clear hf HF
            go_wp2_with fail
            clear hck
            generalize wr.heap.size = N at *
            go_loopw [46] (fun i wq => ∃ (j : Nat) (u1 u2 : Value), j ≤ t.size ∧ i = .int .i64 j ∧ Below w1.heap.size w1 wq ∧ RL wq w1.heap.size (N + 1) w.heap.size w1.heap.size (w1.heap.size + 1) N (N + 2) wide k (lineF wide k (t.data.toList.take j) (X1, X2, [])).1 (lineF wide k (t.data.toList.take j) (X1, X2, [])).2 u1 u2) (fun i _ => t.size - (intOf i).toNat)
            case atStart => exact ⟨0, _, _, Nat.zero_le _, rfl, hW0.out, by simpa [lineF] using HO.out⟩
            case round =>
              obtain ⟨j, u1, u2, hj, rfl, hbq, hrl⟩ := hrel
              have hjl : (t.data.toList.take j).length = j := by rw [List.length_take, size_toList]; omega
              have hB8 := HFL.out j
              rw [hjl] at hB8
              change Fits wide (k * (8 * s.size + 1) + 8 * j) (lineF wide k (t.data.toList.take j) (X1, X2, [])).1 ∧ (lineF wide k (t.data.toList.take j) (X1, X2, [])).2 ≤ 0 + 8 * j at hB8
              obtain ⟨hf, hc⟩ := hB8
              clear hjl
              by_cases hjt : j < t.size
              · have hstp := Lib.hid (lineF_step wide k t j hjt (X1, X2, []))
                have hS := Lib.hid (rshown_any t[j])
                generalize lineF wide k (t.data.toList.take j) (X1, X2, []) = y at *
                obtain ⟨Y, C⟩ := y
                dsimp only at *
                by_cases h9 : t[j] = 9
                · have hne1 : ((t[j].toNat : Int) != 9) = false := by rw [h9]; rfl
                  have hstep : byteR wide k (Y, C) t[j] = (tabR wide k (8 - C % 8) Y, C + (8 - C % 8)) := by unfold byteR; rw [if_pos h9]
                  have hst2 := Lib.hid (hstp.out.trans hstep)
                  clear hstp hstep h9 hS
                  obtain ⟨m0, hm0⟩ : ∃ m0, m0 = 8 - C % 8 := ⟨_, rfl⟩
                  have hi0 : (8 : Int) - (C : Int) % 8 = (m0 : Int) := by omega
                  have hm8 : m0 ≤ 8 := by omega
                  rw [← hm0] at hst2
                  have HF := Lib.hid hf
                  have hrl0 := hrl
                  have q6 := cell_of_one hrl.k6
                  have HRL := Lib.hid hrl
                  clear hrl hrl0 hf hm0
                  go_wp2_with fail
                  clear q6
                  go_loopw [16] (fun i wz => ∃ (q m : Nat) (p1 p2 : Value), q + m = m0 ∧ i = .int .i64 m ∧ Below w1.heap.size w1 wz ∧ RL wz w1.heap.size (N + 1) w.heap.size w1.heap.size (w1.heap.size + 1) N (N + 2) wide k (tabR wide k q Y) (C + q) p1 p2) (fun i _ => (intOf i).toNat)
                  case atStart => exact ⟨0, m0, u1, u2, by omega, rfl, hbq, HRL.out⟩
                  case round =>
                    obtain ⟨q, m, p1, p2, hq, rfl, hbz, hrz⟩ := hrel
                    by_cases hm : 0 < m
                    · have hput : tabR wide k (q + 1) Y = putR wide k [32] (tabR wide k q Y) := rfl
                      have hfq := HF.out.tab (n := k) hw2.1 q
                      have HP := Lib.hid (rput_any wr w1.heap.size (N + 1) w.heap.size w1.heap.size (w1.heap.size + 1) N (N + 2) wide k (tabR wide k q Y) (C + q) p1 p2 [32] hrz (by have := hfq.1; omega) (by have := hfq.2.1; omega) (by have := hfq.2.2; omega) (by simp) (by omega))
                      clear hrz hfq
                      go_wp2_with fail
                      refine HP.out.mono ?_
                      rintro e w3 ⟨rfl, hb3, r1, r2, hr3⟩
                      have HR3 := Lib.hid hr3
                      clear hr3 HP
                      go_wp2_with fail
                      go_roundw
                      case rel => exact ⟨q + 1, m - 1, r1, r2, by omega, by go_num, hbz.trans hb3, by rw [hput]; exact HR3.out⟩
                      case measure => simp [intOf]; omega
                    · obtain rfl : m = 0 := by omega
                      obtain rfl : q = m0 := by omega
                      have HZ := Lib.hid hrz
                      clear hrz
                      go_wp2_with fail
                      exact ⟨⟨j + 1, p1, p2, by omega, by go_num, hbz, by rw [hst2.out]; exact HZ.out⟩, by simp [intOf]; omega⟩
                · have hne1 : ((t[j].toNat : Int) == 9) = false := by
                    rw [beq_eq_false_iff_ne]; intro e; exact h9 (UInt8.toNat_inj.mp (by show t[j].toNat = 9; omega))
                  have hstep : byteR wide k (Y, C) t[j] = (putR wide k (shownB t[j]) Y, C + (shownB t[j]).length) := by unfold byteR; rw [if_neg h9]
                  have hsl := shown_len t[j]
                  have hst2 := Lib.hid (hstp.out.trans hstep)
                  clear hstp hstep h9
                  generalize shownB t[j] = sb at *
                  have HP := Lib.hid (fun W (hW : RL W w1.heap.size (N + 1) w.heap.size w1.heap.size (w1.heap.size + 1) N (N + 2) wide k Y C u1 u2) =>
                    rput_any W w1.heap.size (N + 1) w.heap.size w1.heap.size (w1.heap.size + 1) N (N + 2) wide k Y C u1 u2 sb hW (by have := hf.1; omega) (by have := hf.2.1; omega) (by have := hf.2.2; omega) (by omega) (by omega))
                  have HRL := Lib.hid hrl
                  clear hrl hf hc
                  go_wp2_with fail
                  refine (hS.out wr).mono ?_
                  rintro e w2 ⟨rfl, hb2⟩
                  have HR2 := Lib.hid (HRL.out.keep hb2)
                  have hbq2 : Below w1.heap.size w1 w2 := hbq.trans (hb2.mono hbq.size)
                  clear hb2 HRL
                  go_wp2_with fail
                  refine (HP.out w2 HR2.out).mono ?_
                  rintro e w3 ⟨rfl, hb3, p1, p2, hr3⟩
                  have HR3 := Lib.hid hr3
                  clear hr3 HP HR2
                  go_wp2_with fail
                  go_roundw
                  case rel => exact ⟨j + 1, p1, p2, by omega, by go_num, hbq2.trans hb3, by rw [hst2.out]; exact HR3.out⟩
                  case measure => simp [intOf]; omega
              · obtain rfl : j = t.size := by omega
                rw [show t.data.toList.take t.size = t.data.toList from List.take_of_length_le (by rw [size_toList]; omega)] at *
                have hst2 := Lib.hid (hst.out.trans (show lineR wide k t.data.toList (X1, X2, []) = closeR k (lineF wide k t.data.toList (X1, X2, [])).1 from rfl))
                generalize lineF wide k t.data.toList (X1, X2, []) = y at *
                obtain ⟨⟨Y1, Y2, Y3⟩, C⟩ := y
                dsimp only at *
                obtain ⟨ja, ha, ha0, ha1, ha2⟩ := info_parts info_str
                obtain ⟨jb, hb, hb0, hbs1, hb2⟩ := info_parts info_int
                have hl1 := hf.1
                have hl2 := hf.2.1
                have o1 := hrl.o1
                have o2 := hrl.o2
                have hbox := fun W hW => hrl.two (w' := W) hW
                have H := Lib.hid hrl
                have hBz := hbq.size
                dsimp only at hl1 hl2 o1 o2
                clear hf hst HFL hrl
                go_wp2_with fail
                refine wp_region_tail 8 (Two wr.drew u1.ownBlock u2.ownBlock) rfl (by decide) ?_
                refine wpAnyT_take 99 0 (v := u1) (by kernel_rfl) rfl (by kernel_rfl) (fun _ _ _ h => h) (Or.inl ⟨rfl, fun W hW => by have := cell_of_one (hbox W hW).2.2.1; go_simp⟩) (Two.refl _ _ _) ?_
                refine wpAnyT_take 99 1 (v := .string ⟨Y3.toArray⟩) (by kernel_rfl) rfl (by kernel_rfl) (fun _ _ _ h => h) (Or.inl ⟨rfl, fun W hW => by have := cell_of_one (hbox W hW).1; go_simp⟩) (Two.refl _ _ _) ?_
                refine wpAnyT_take 99 4 (v := u2) (by kernel_rfl) rfl (by kernel_rfl) (fun _ _ _ h => h) (Or.inl ⟨rfl, fun W hW => by have := cell_of_one (hbox W hW).2.2.2.1; go_simp⟩) (Two.refl _ _ _) ?_
                refine wpAnyT_take 99 5 (v := .int .i64 k) (by kernel_rfl) rfl (by kernel_rfl) (fun _ _ _ h => h) (Or.inl ⟨rfl, fun W hW => by have := cell_of_one (hbox W hW).2.2.2.2.1; go_simp⟩) (Two.refl _ _ _) ?_
                refine two_appends (i1 := 2) (i2 := 3) (i3 := 6) (i4 := 7) (s1 := 69) (x1 := 70) (d1 := 71) (e1 := 72) (s2 := 73) (x2 := 74) (d2 := 75) (e2 := 76) (T1 := 22) (E1 := 9) (T2 := 69) (E2 := 3) (y1 := .string ⟨Y3.toArray⟩) (y2 := .int .i64 k) (b1 := 16) (b2 := 8)
                  (v1 := u1) (v2 := u2) ⟨rfl, rfl, rfl, rfl, rfl, rfl, rfl, rfl, Tryz.underlying22, ha, ha0, ha1, ha2, rfl⟩ ⟨rfl, rfl, rfl, rfl, rfl, rfl, rfl, rfl, Tryz.underlying69, hb, hb0, hbs1, hb2, rfl⟩ (by decide) ?ord (by decide) ?hlt ?q1 ?q2 ?q3 ?q4 ⟨rfl, rfl⟩ ⟨rfl, rfl⟩ o1 o2 (by simp; omega) (by unfold maxLen; omega) (by unfold maxLen; omega) (by omega) (by omega) ?_
                case ord => kernel_rfl
                case hlt => exact ⟨by simp [Act.put], by simp [Act.put]⟩
                case q1 => simp [Act.eval, Act.put]
                case q2 => simp [Act.eval, Act.put]
                case q3 => simp [Act.eval, Act.put]
                case q4 => simp [Act.eval, Act.put]
                intro a1 a2 v1' v2' w' hT g1 g2 f1 f2
                have HL := Lib.hid (H.out.setLists hT (rows := Y1 ++ [⟨Y3.toArray⟩]) (nums := Y2 ++ [(k : Int)]) (by rw [List.length_append, List.map_append]; exact g1) (by rw [List.length_append, List.map_append]; exact g2) f1 f2)
                obtain ⟨p1, q1, rfl⟩ := own_form g1
                obtain ⟨p2, q2, rfl⟩ := own_form g2
                obtain ⟨d1, d2, d3, d4, d5, d6⟩ := hbox w' hT
                have e3 := cell_of_one d3
                have e4 := cell_of_one d4
                have y3 := free_of_one d3
                have y4 := free_of_one d4
                have BW := Lib.hid (two_below hT o1 o2 hBz)
                have m34 := box_ne d3 d4 (by decide)
                clear hbox g1 g2 f1 f2 hT d1 d2 d3 d4 d5 d6 o1 o2
                simp only [List.drop_succ_cons, List.drop_zero]
                go_wp2_with fail
                exact ⟨⟨k + 1, _, _, by omega, by go_num, ((hbq.trans BW.out).setCell (Nat.le_refl _) _).setCell (show w1.heap.size ≤ w1.heap.size + 1 by omega) _, by rw [hst2.out]; exact HL.out.out⟩, by simp [intOf]; omega⟩
          · obtain rfl : k = l.length := by omega
            have q3 := cell_of_one hro.k3
            have q4 := cell_of_one hro.k4
            have S1 := Lib.hid (SL.of_own hro.o1)
            have S2 := Lib.hid (IL.of_own hro.o2)
            clear hro c2 k2 hsz
            go_wp2_with fail
            go_quiet (fail)
            go_wp2_with fail
            go_ret3
            exact ⟨below_drewN (hb1.trans (hbw.mono hb1.size)) _, _, _, rfl, S1.out, S2.out⟩
      · have hw' : withinB wide 2 200 = false := by simpa using hw
        have hE : rowsE s wide = 3 := by simp [rowsE, hl', hw']
        rw [hE, rowsL_none (by rw [hE]; decide)]
        have hww : decide (wide < 2) = true ∨ (decide (wide < 2) = false ∧ decide (200 < wide) = true) := by
          rw [decide_eq_true_iff, decide_eq_false_iff_not, decide_eq_true_iff]
          simp [withinB] at hw
          omega
        clear hE hl hl' hw hw' hsz
        generalize linesL s = l at *
        rcases hww with hww | ⟨hww, hww2⟩
        all_goals
          skip
          go_enter Tryz.func72, Tryz.ntmps72
          go_wp2_with fail
          refine (hT.out _).mono ?_
          rintro e w1 ⟨he, hw⟩
          subst he; subst hw
          go_wp2_with fail
          refine (hS.out _ (by exact (Below.refl _ w).alloc (Nat.le_refl _) _)).mono ?_
          rintro e w1 ⟨v, rfl, ⟨A, c, rfl, hc, hcell⟩, hb⟩
          have c2 : w1.cell? ⟨w.heap.size, 0, none⟩ = some (.int .i64 wide) := (hb.cell (p := ⟨w.heap.size, 0, none⟩) (by simp)).trans (by rw [World.cell?_alloc_at _ _ _ _ rfl]; rfl)
          have hb1 : Below w.heap.size w w1 := ((Below.refl _ w).alloc (Nat.le_refl _) (.cells #[.int .i64 wide] 3)).trans (hb.mono (by simp))
          have k2 : w1.heap[w.heap.size]? = some (.cells #[.int .i64 wide] 3 (0, 0)) := (hb.block _ (by simp)).trans (heap_alloc_new w _)
          clear hb hT hS
          clear hcell
          go_wp2
          go_ret3
          exact ⟨hb1, _, _, rfl, nil_SL _, nil_IL _⟩
  · have hlin : linesL s = [] := by unfold linesL; rw [h0]; rfl
    have hs0 : s.size = 0 := by
      rw [← size_toList]
      rw [ByteArray.toList_eq, List.isEmpty_iff] at h0
      rw [h0]; rfl
    have hl : largeB s = false := by simp [largeB, hlin, hs0]
    have h2 : decide ((65536 : Int) < s.size) = false := by rw [decide_eq_false_iff_not]; omega
    clear hT hS hx hs hlen
    by_cases hw : withinB wide 2 200 = true
    · have hE : rowsE s wide = 0 := by simp [rowsE, hl, hw]
      have hR : rowsL s wide = ([], [], []) := by unfold rowsL; rw [if_pos hE, hlin]; rfl
      have hw2 : 2 ≤ wide ∧ wide ≤ 200 := by simpa [withinB] using hw
      rw [hE, hR]
      clear hE hR hl hw hlin
      go_enter Tryz.func72, Tryz.ntmps72
      go_wp2_with fail
      refine wp_loop_rounds 1 ?_
      rw [rounds_succ]
      go_wp2_with fail
      go_quiet (fail)
      go_wp2_with fail
      go_ret3
      exact ⟨below_drewN ((((Below.refl _ w).alloc (Nat.le_refl _) _).alloc (by simp) _).alloc (by simp; omega) _) _, _, _, rfl, nil_SL _, nil_IL _⟩
    · have hw' : withinB wide 2 200 = false := by simpa using hw
      have hE : rowsE s wide = 3 := by simp [rowsE, hl, hw']
      rw [hE, rowsL_none (by rw [hE]; decide)]
      have hww : decide (wide < 2) = true ∨ (decide (wide < 2) = false ∧ decide (200 < wide) = true) := by
        rw [decide_eq_true_iff, decide_eq_false_iff_not, decide_eq_true_iff]
        simp [withinB] at hw
        omega
      clear hE hl hw hw' hlin
      rcases hww with hww | ⟨hww, hww2⟩
      all_goals
        go_enter Tryz.func72, Tryz.ntmps72
        go_wp2
        go_ret3
        exact ⟨(Below.refl _ w).alloc (Nat.le_refl _) _, _, _, rfl, nil_SL _, nil_IL _⟩

end Go.Proofs.YtokmiommhfbkeaaGreatDoor
