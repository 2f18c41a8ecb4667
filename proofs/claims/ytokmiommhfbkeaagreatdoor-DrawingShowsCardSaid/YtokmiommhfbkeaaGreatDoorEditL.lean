/- The program's editor, in its box: letters turned up to the end of the next word. -/
import Derived.Test.YtokmiommhfbkeaaGreatDoorEditY
namespace Go.Proofs.YtokmiommhfbkeaaGreatDoor
open Go.RowKit

theorem up_int (c : UInt8) : bits .andNot .u8 (c.toNat : Int) 32 = ((upC c).toNat : Int) := by
  have h : ∀ u : Fin 256, bits .andNot .u8 ((u.val : Nat) : Int) 32 = ((UInt8.ofNat (bits .andNot .u8 ((u.val : Nat) : Int) 32).toNat).toNat : Int) := by decide +kernel
  exact h ⟨c.toNat, c.toNat_lt⟩
theorem low_int (c : UInt8) : bits .or .u8 (c.toNat : Int) 32 = ((lowC c).toNat : Int) := by
  have h : ∀ u : Fin 256, bits .or .u8 ((u.val : Nat) : Int) 32 = ((UInt8.ofNat (bits .or .u8 ((u.val : Nat) : Int) 32).toNat).toNat : Int) := by decide +kernel
  exact h ⟨c.toNat, c.toNat_lt⟩

/-- the bytes when the letters up to j have been turned -/
def letK (first rest : Bool) (l : List UInt8) (i j : Nat) : List UInt8 := l.take i ++ (letL first rest ((l.take j).drop i) ++ l.drop j)
theorem letL_len (first rest : Bool) (l : List UInt8) : (letL first rest l).length = l.length := by
  induction l generalizing first with
  | nil => rfl
  | cons c r ih => unfold letL; split <;> simp [ih]
theorem letL_snoc (first rest : Bool) (l : List UInt8) (c : UInt8) :
    letL first rest (l ++ [c]) = letL first rest l ++ [if letB c then (if (if l.any letB then rest else first) then upC c else lowC c) else c] := by
  induction l generalizing first with
  | nil => simp only [List.nil_append, letL, List.any_nil]; split <;> simp
  | cons d r ih =>
    cases hd : letB d
    · simp only [List.cons_append, letL, hd, List.any_cons, Bool.false_or]
      simp [ih]
    · simp only [List.cons_append, letL, hd, List.any_cons, Bool.true_or]
      simp [ih]
theorem letK_len (first rest : Bool) (l : List UInt8) (i j : Nat) (h1 : i ≤ j) (h2 : j ≤ l.length) : (letK first rest l i j).length = l.length := by
  unfold letK
  simp only [List.length_append, letL_len, List.length_drop, List.length_take]
  omega
theorem part_snoc (l : List UInt8) (i j : Nat) (h1 : i ≤ j) (h2 : j < l.length) : (l.take (j + 1)).drop i = (l.take j).drop i ++ [l[j]] := by
  rw [List.take_succ_eq_append_getElem h2, List.drop_append_of_le_length (by rw [List.length_take]; omega)]
theorem letK_at (first rest : Bool) (l : List UInt8) (i j : Nat) (h1 : i ≤ j) (h2 : j < l.length) : (letK first rest l i j)[j]? = some l[j] := by
  unfold letK
  rw [← List.append_assoc, List.getElem?_append_right (by simp only [List.length_append, letL_len, List.length_drop, List.length_take]; omega)]
  simp only [List.length_append, letL_len, List.length_drop, List.length_take]
  rw [show j - (min i l.length + (min j l.length - i)) = 0 by omega, List.getElem?_drop, Nat.add_zero, List.getElem?_eq_getElem h2]
theorem letK_step (first rest : Bool) (l : List UInt8) (i j : Nat) (h1 : i ≤ j) (h2 : j < l.length) (c : UInt8)
    (hc : (if letB l[j] then (if (if ((l.take j).drop i).any letB then rest else first) then upC l[j] else lowC l[j]) else l[j]) = c) : letK first rest l i (j + 1) = (letK first rest l i j).set j c := by
  unfold letK
  rw [part_snoc l i j h1 h2, letL_snoc, hc, ← List.append_assoc (l.take i) (letL first rest ((l.take j).drop i)) (l.drop j)]
  have hlen : (l.take i ++ letL first rest ((l.take j).drop i)).length = j := by
    simp only [List.length_append, letL_len, List.length_drop, List.length_take]; omega
  rw [List.set_append_right _ _ (by omega), hlen, Nat.sub_self, List.drop_eq_getElem_cons h2, List.set_cons_zero]
  simp
theorem letK_same (first rest : Bool) (l : List UInt8) (i j : Nat) (h1 : i ≤ j) (h2 : j < l.length) (hc : letB l[j] = false) : letK first rest l i (j + 1) = letK first rest l i j := by
  rw [letK_step first rest l i j h1 h2 l[j] (by rw [hc]; simp)]
  obtain ⟨hj, he⟩ := List.getElem?_eq_some_iff.1 (letK_at first rest l i j h1 h2)
  rw [← he]
  exact List.set_getElem_self hj
/-- has a letter been met? -/
def metB (l : List UInt8) (i j : Nat) : Bool := ((l.take j).drop i).any letB
theorem metB_snoc (l : List UInt8) (i j : Nat) (h1 : i ≤ j) (h2 : j < l.length) : metB l i (j + 1) = (metB l i j || letB l[j]) := by
  unfold metB; rw [part_snoc l i j h1 h2, List.any_append]; simp

theorem cur_eq (k16 k18 m : Bool) : (if m then k16 else (k16 || k18)) = (k16 || (k18 && !m)) := by cases k16 <;> cases k18 <;> cases m <;> rfl
theorem letK_turn {k16 k18 q : Bool} {l : List UInt8} {i j : Nat} {c x : UInt8} (h1 : i ≤ j) (h2 : j < l.length) (hc : l[j] = c) (hl : letB c = true) (hq : (k18 && !metB l i j) = q) (hx : (if (k16 || q) then upC c else lowC c) = x) :
    letK (k16 || k18) k16 l i (j + 1) = (letK (k16 || k18) k16 l i j).set j x ∧ metB l i (j + 1) = true := by
  refine ⟨letK_step _ _ l i j h1 h2 x ?_, ?_⟩
  · subst hc
    rw [if_pos hl, ← hx, ← hq, ← cur_eq k16 k18 (metB l i j)]; rfl
  · rw [metB_snoc l i j h1 h2, hc, hl, Bool.or_true]
theorem metB_start (l : List UInt8) (i : Nat) : metB l i i = false := by
  unfold metB; rw [List.drop_eq_nil_of_le (by rw [List.length_take]; omega)]; rfl
theorem letK_start (f r : Bool) (l : List UInt8) (i : Nat) : letK f r l i i = l := by
  unfold letK; rw [show (l.take i).drop i = [] from List.drop_eq_nil_of_le (by rw [List.length_take]; omega)]; simp [letL]

set_option maxRecDepth 100000 in
set_option maxHeartbeats 3200000 in
theorem letters_any (d : ED) (kind : Int) (bv hv : Value) (place : Int) (begun : ByteArray) (b : Nat) (w : World) (h : Box w b (edC d bv place begun hv)) (ha : d.a ≤ d.text.size) (ht : d.text.size ≤ 1000) :
    Calls Tryz.prog 83 #[.pointer (some ⟨b, 0, none⟩), .int .i64 kind] w fun e w' => e = .returned (.tuple #[]) ∧ Turned w b (edC (lettersD kind d) bv place begun hv) w' := by
  have hN := Lib.hid (nextWord_any d bv hv place begun b w h ha ht)
  obtain ⟨text, a, killed, killing⟩ := d
  dsimp only at *
  obtain ⟨cc, zz⟩ := h.cell
  have HB := Lib.hid h
  clear h
  have kb := fun W => run_bytes_of_string (P := Tryz.prog) W 9 50 5 text Tryz.underlying9 Tryz.underlying50 Tryz.underlying5
  have hbw : b < w.heap.size := HB.out.lt
  have hn1 := nextW_ge text a
  have hn2 := nextW_le text a ha
  have hfin : lettersD kind ⟨text, a, killed, killing⟩ = ⟨lettersT text kind a (nextW text a), nextW text a, killed, killing⟩ := rfl
  rw [hfin]
  clear hfin
  have hzl : Hid (text.data.toList.length = text.size) := size_toList text
  generalize nextW text a = n at *
  have hT : lettersT text kind a n = ⟨(letK (decide (kind = 16) || decide (kind = 18)) (decide (kind = 16)) text.data.toList a n).toArray⟩ := rfl
  rw [hT]
  clear hT
  obtain ⟨k16, h16⟩ : ∃ q, (kind == 16) = q := ⟨_, rfl⟩
  obtain ⟨k18, h18⟩ : ∃ q, (kind == 18) = q := ⟨_, rfl⟩
  have hd16 : decide (kind = 16) = k16 := by rw [← h16]; rfl
  have hd18 : decide (kind = 18) = k18 := by rw [← h18]; rfl
  rw [hd16, hd18]
  clear hd16 hd18
  go_enter Tryz.func83, Tryz.ntmps83
  go_wp2_with fail
  refine hN.out.mono ?_
  rintro e w' ⟨rfl, rfl⟩
  clear hN
  go_wp2_with fail
  have hT := bytes_box HB.out (.cells (bytesRow text (grownCap w text.size 0 5)) 5 ((bytesRow text (grownCap w text.size 0 5)).size, (bytesRow text (grownCap w text.size 0 5)).size + 1))
  have hR := BR.new w text (grownCap w text.size 0 5) 5
  generalize grownCap w text.size 0 5 = cp at *
  generalize (w.alloc (.cells (bytesRow text cp) 5 ((bytesRow text cp).size, (bytesRow text cp).size + 1))).drew = w2 at *
  clear kb cc zz
  have HG := Lib.hid (show b < w.heap.size from HB.out.lt)
  have HTT := Lib.hid hT
  have HRR := Lib.hid hR
  clear hT hR hbw
  have hll := Lib.hid (fun f r j => letK_len f r text.data.toList a j)
  have HGW := Lib.hid (Nat.le_refl w.heap.size)
  generalize hg : w.heap.size = g at HG HRR ⊢
  have HGG := Lib.hid (show w.heap.size ≤ g by omega)
  clear hg HGW
  generalize hl0 : text.data.toList = l at hzl hll HRR
  have HL0 := Lib.hid hl0
  clear hl0
  go_loopw [6, 7] (fun v6 i wr => ∃ j : Nat, a ≤ j ∧ j ≤ n ∧ i = .int .i64 j ∧ v6 = .bool (k18 && !metB l a j) ∧ Hid (BR wr g (letK (k16 || k18) k16 l a j)) ∧ Hid (Turned w b (edC ⟨text, a, killed, killing⟩ bv place begun hv) wr)) (fun _ i _ => n - (intOf i).toNat)
  case atStart => exact ⟨a, Nat.le_refl _, hn1, rfl, by rw [metB_start]; simp, by rw [letK_start]; exact HRR, HTT⟩
  case round =>
    obtain ⟨j, hj1, hj2, rfl, rfl, HR, HT⟩ := hrel
    by_cases hlt : j < n
    · have hjl : j < l.length := by have := hzl.out; omega
      have hjt : j < text.size := by omega
      obtain ⟨c, hc⟩ : ∃ c, l[j] = c := ⟨_, rfl⟩
      have hjk : j < (letK (k16 || k18) k16 l a j).length := by rw [hll.out _ _ _ hj1 (by omega)]; exact hjl
      have hcell : wr.cell? ⟨g, j, none⟩ = some (.int .u8 c.toNat) := by
        rw [(HR.out j hjk).1, Option.some.inj ((List.getElem?_eq_getElem hjk).symm.trans (letK_at (k16 || k18) k16 l a j hj1 hjl)), hc]
      have hfr := (HR.out j hjk).2
      have hC := Lib.hid (fun w => isLetter_any c w)
      cases hl : letB c
      · have HS := Lib.hid (letK_same (k16 || k18) k16 l a j hj1 hjl (by rw [hc]; exact hl))
        have HM := Lib.hid (show metB l a (j + 1) = metB l a j by rw [metB_snoc l a j hj1 hjl, hc, hl, Bool.or_false])
        rw [hl] at hC
        clear hc hjk hl
        go_wp2_with (go_at_call 136; refine (hC.out _).mono ?_; rintro e w' ⟨rfl, rfl⟩)
        go_roundw
        case rel => exact ⟨j + 1, by omega, by omega, by go_num, by rw [HM.out], by rw [HS.out]; exact HR, HT⟩
        case measure => simp [intOf]; omega
      · obtain ⟨q, hq⟩ : ∃ q, (k18 && !metB l a j) = q := ⟨_, rfl⟩
        have HST := Lib.hid (fun x hx => letK_turn (k16 := k16) (x := x) hj1 hjl hc hl hq hx)
        rw [hl] at hC
        rw [hq]
        have hup := up_int c
        have hlow := low_int c
        clear hc hjk hl hq
        rcases Bool.eq_false_or_eq_true k16 with hk | hk
        · have H2 := HST.out (upC c) (by rw [hk]; rfl)
          have HS := Lib.hid H2.1
          have HM := Lib.hid H2.2
          rw [hk] at h16
          have hk := Lib.hid hk
          clear H2
          go_wp2_with (go_at_call 136; refine (hC.out _).mono ?_; rintro e w' ⟨rfl, rfl⟩)
          go_roundw
          case rel => exact ⟨j + 1, by omega, by omega, by go_num, by rw [HM.out]; simp, by rw [HS.out]; exact HR.out.set j _, HT.out.other (p := ⟨g, j, none⟩) HGG.out HB.out.lt _⟩
          case measure => simp [intOf]; omega
        · cases q
          · have H2 := HST.out (lowC c) (by rw [hk]; rfl)
            have HS := Lib.hid H2.1
            have HM := Lib.hid H2.2
            rw [hk] at h16
            have hk := Lib.hid hk
            clear H2
            go_wp2_with (go_at_call 136; refine (hC.out _).mono ?_; rintro e w' ⟨rfl, rfl⟩)
            go_roundw
            case rel => exact ⟨j + 1, by omega, by omega, by go_num, by rw [HM.out]; simp, by rw [HS.out]; exact HR.out.set j _, HT.out.other (p := ⟨g, j, none⟩) HGG.out HB.out.lt _⟩
            case measure => simp [intOf]; omega
          · have H2 := HST.out (upC c) (by rw [hk]; rfl)
            have HS := Lib.hid H2.1
            have HM := Lib.hid H2.2
            rw [hk] at h16
            have hk := Lib.hid hk
            clear H2
            go_wp2_with (go_at_call 136; refine (hC.out _).mono ?_; rintro e w' ⟨rfl, rfl⟩)
            go_roundw
            case rel => exact ⟨j + 1, by omega, by omega, by go_num, by rw [HM.out]; simp, by rw [HS.out]; exact HR.out.set j _, HT.out.other (p := ⟨g, j, none⟩) HGG.out HB.out.lt _⟩
            case measure => simp [intOf]; omega
    · obtain rfl : j = n := by omega
      have kc := HR.out.back text.size cp (by rw [hll.out _ _ _ hj1 (by rw [hzl.out]; omega)]; exact hzl.out.symm)
      obtain ⟨c3, z3⟩ := HT.out.2.cell
      go_wp2
      go_end0
      rw [HL0.out]
      exact ⟨rfl, (HT.out.set 0 _).set 1 _⟩

end Go.Proofs.YtokmiommhfbkeaaGreatDoor
