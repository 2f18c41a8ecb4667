/- The reference's editor, on its line behind a pointer: letters turned. -/
import Derived.Test.YtokmiommhfbkeaaGreatDoorRefK
import Derived.Test.YtokmiommhfbkeaaGreatDoorEditL
namespace Go.Proofs.YtokmiommhfbkeaaGreatDoor
open Go.RowKit

theorem RTurned.other {w w1 : World} {b : Nat} {cs : Array Value} (h : RTurned w b cs w1) {p : Addr} (hp : w.heap.size ≤ p.block) (hb : b < w.heap.size) (v : Value) : RTurned w b cs (w1.setCell p v) :=
  ⟨only_setCell h.1 (.inr hp) v, (Below.heap_setCell w1 p v b (by omega)).trans h.2⟩
theorem rbytes_box {w : World} {b : Nat} {cs : Array Value} (h : RBox w b cs) (o : Obj) : RTurned w b cs (w.alloc o).drew := ((RTurned.refl h).alloc o).drew

set_option maxRecDepth 100000 in
set_option maxHeartbeats 3200000 in
theorem rletters_any (d : ED) (kind : Int) (bv : Value) (place : Int) (begun : ByteArray) (b : Nat) (w : World) (h : RBox w b (rlC d bv place begun)) (ha : d.a ≤ d.text.size) (ht : d.text.size ≤ 1000) :
    Calls Tryz.prog 90 #[.pointer (some ⟨b, 0, none⟩), .int .i64 kind] w fun e w' => e = .returned (.tuple #[]) ∧ RTurned w b (rlC (lettersD kind d) bv place begun) w' := by
  have hN := Lib.hid (fun W => rnextWord_any d.text d.a W ha ht)
  obtain ⟨text, a, killed, killing⟩ := d
  dsimp only at *
  obtain ⟨cc, zz⟩ := h.cell
  have HB := Lib.hid h
  clear h
  have kb := fun W => run_bytes_of_string (P := Tryz.prog) W 9 50 5 text Tryz.underlying9 Tryz.underlying50 Tryz.underlying5
  have hbw : b < w.heap.size := HB.out.lt
  have hn1 := nextW_ge text a
  have hn2 := nextW_le text a ha
  have hfin : lettersD kind ⟨text, a, killed, killing⟩ = ⟨lettersT text kind a (nextW text a), nextW text a, killed, killing⟩ := rfl
  rw [hfin]
  clear hfin
  have hzl : Hid (text.data.toList.length = text.size) := size_toList text
  generalize nextW text a = n at *
  have hT : lettersT text kind a n = ⟨(letK (decide (kind = 16) || decide (kind = 18)) (decide (kind = 16)) text.data.toList a n).toArray⟩ := rfl
  rw [hT]
  clear hT
  obtain ⟨k16, h16⟩ : ∃ q, (kind == 16) = q := ⟨_, rfl⟩
  obtain ⟨k18, h18⟩ : ∃ q, (kind == 18) = q := ⟨_, rfl⟩
  have hd16 : decide (kind = 16) = k16 := by rw [← h16]; rfl
  have hd18 : decide (kind = 18) = k18 := by rw [← h18]; rfl
  rw [hd16, hd18]
  clear hd16 hd18
  go_enter Tryz.func90, Tryz.ntmps90
  go_wp2_with fail
  go_quiet ((go_at_call 89; exact Calls.quiet_of_same ((hN.out _).mono fun _ _ hh => ⟨hh.1, hh.2.symm⟩)))
  have HQ := Lib.hid ((RTurned.refl HB.out).drewN nq)
  have hbq : b < (w.drewN nq).heap.size := HB.out.lt
  clear cc zz hbw
  generalize w.drewN nq = wq at *
  have HBQ := Lib.hid HQ.out.2
  obtain ⟨cc, zz⟩ := HBQ.out.cell
  go_wp2_with fail
  have hT := rbytes_box HBQ.out (.cells (bytesRow text (grownCap wq text.size 0 5)) 5 ((bytesRow text (grownCap wq text.size 0 5)).size, (bytesRow text (grownCap wq text.size 0 5)).size + 1))
  have hR := BR.new wq text (grownCap wq text.size 0 5) 5
  generalize grownCap wq text.size 0 5 = cp at *
  generalize (wq.alloc (.cells (bytesRow text cp) 5 ((bytesRow text cp).size, (bytesRow text cp).size + 1))).drew = w2 at *
  clear kb cc zz
  have HG := Lib.hid (show b < wq.heap.size from HBQ.out.lt)
  have HTT := Lib.hid hT
  have HRR := Lib.hid hR
  clear hT hR hbq
  have hll := Lib.hid (fun f r j => letK_len f r text.data.toList a j)
  have HGW := Lib.hid (Nat.le_refl wq.heap.size)
  generalize hg : wq.heap.size = g at HG HRR ⊢
  have HGG := Lib.hid (show wq.heap.size ≤ g by omega)
  clear hg HGW
  generalize hl0 : text.data.toList = l at hzl hll HRR
  have HL0 := Lib.hid hl0
  clear hl0
  go_loopw [6, 7] (fun v6 i wr => ∃ j : Nat, a ≤ j ∧ j ≤ n ∧ i = .int .i64 j ∧ v6 = .bool (!metB l a j) ∧ Hid (BR wr g (letK (k16 || k18) k16 l a j)) ∧ Hid (RTurned wq b (rlC ⟨text, a, killed, killing⟩ bv place begun) wr)) (fun _ i _ => n - (intOf i).toNat)
  case atStart => exact ⟨a, Nat.le_refl _, hn1, rfl, by rw [metB_start]; rfl, by rw [letK_start]; exact HRR, HTT⟩
  case round =>
    obtain ⟨j, hj1, hj2, rfl, rfl, HR, HT⟩ := hrel
    by_cases hlt : j < n
    · have hjl : j < l.length := by have := hzl.out; omega
      have hjt : j < text.size := by omega
      obtain ⟨c, hc⟩ : ∃ c, l[j] = c := ⟨_, rfl⟩
      have hjk : j < (letK (k16 || k18) k16 l a j).length := by rw [hll.out _ _ _ hj1 (by omega)]; exact hjl
      have hcell : wr.cell? ⟨g, j, none⟩ = some (.int .u8 c.toNat) := by
        rw [(HR.out j hjk).1, Option.some.inj ((List.getElem?_eq_getElem hjk).symm.trans (letK_at (k16 || k18) k16 l a j hj1 hjl)), hc]
      have hfr := (HR.out j hjk).2
      cases hl : letB c
      · have HS := Lib.hid (letK_same (k16 || k18) k16 l a j hj1 hjl (by rw [hc]; exact hl))
        have HM := Lib.hid (show metB l a (j + 1) = metB l a j by rw [metB_snoc l a j hj1 hjl, hc, hl, Bool.or_false])
        have hor : ((c == 95) = true ∧ ((c.toNat : Int) == 95) = true) ∨ (c == 95) = false := by
          by_cases h95 : c = 95
          · exact .inl ⟨by rw [h95]; rfl, by rw [h95]; rfl⟩
          · exact .inr (by rw [beq_eq_false_iff_ne]; exact h95)
        rcases hor with ⟨h95, h95i⟩ | h95
        all_goals
          have hC := Lib.hid (fun w => by have := rletterByte_any c w; rw [hl, h95] at this; exact this)
        · clear hc hjk hl h95
          go_wp2_with (go_at_call 141; refine (hC.out _).mono ?_; rintro e w' ⟨rfl, rfl⟩)
          go_roundw
          case rel => exact ⟨j + 1, by omega, by omega, by go_num, by rw [HM.out], by rw [HS.out]; exact HR, HT⟩
          case measure => simp [intOf]; omega
        · clear hc hjk hl h95
          go_wp2_with (go_at_call 141; refine (hC.out _).mono ?_; rintro e w' ⟨rfl, rfl⟩)
          go_roundw
          case rel => exact ⟨j + 1, by omega, by omega, by go_num, by rw [HM.out], by rw [HS.out]; exact HR, HT⟩
          case measure => simp [intOf]; omega
      · have h95i : ((c.toNat : Int) == 95) = false := by
          rw [beq_eq_false_iff_ne]; intro e
          have : c = 95 := UInt8.toNat_inj.1 (by rw [show (95 : UInt8).toNat = 95 from rfl]; omega)
          rw [this] at hl; exact absurd hl (by decide)
        have hC := Lib.hid (fun w => by have := rletterByte_any c w; rw [hl, Bool.or_true] at this; exact this)
        have HST := Lib.hid (fun x hx => letK_turn (k16 := k16) (k18 := k18) (x := x) hj1 hjl hc hl rfl hx)
        have hup := up_int c
        have hlow := low_int c
        clear hc hjk hl
        rcases Bool.eq_false_or_eq_true k16 with hk16 | hk16 <;> rcases Bool.eq_false_or_eq_true k18 with hk18 | hk18 <;> rcases Bool.eq_false_or_eq_true (!metB l a j) with hff | hff
        · have H2 := HST.out (upC c) (by rw [hk16, hk18, hff]; rfl)
          have HS := Lib.hid H2.1
          have HM := Lib.hid H2.2
          have hf2 : metB l a j = false := by simpa using hff
          rw [hk16] at h16
          rw [hk18] at h18
          have K16 := Lib.hid hk16
          have K18 := Lib.hid hk18
          clear H2 hk16 hk18 hff
          go_wp2_with (go_at_call 141; refine (hC.out _).mono ?_; rintro e w' ⟨rfl, rfl⟩)
          go_roundw
          case rel => exact ⟨j + 1, by omega, by omega, by go_num, by rw [HM.out]; simp, by rw [HS.out]; exact HR.out.set j _, HT.out.other (p := ⟨g, j, none⟩) HGG.out HBQ.out.lt _⟩
          case measure => simp [intOf]; omega
        · have H2 := HST.out (upC c) (by rw [hk16, hk18, hff]; rfl)
          have HS := Lib.hid H2.1
          have HM := Lib.hid H2.2
          have hf2 : metB l a j = true := by simpa using hff
          rw [hk16] at h16
          rw [hk18] at h18
          have K16 := Lib.hid hk16
          have K18 := Lib.hid hk18
          clear H2 hk16 hk18 hff
          go_wp2_with (go_at_call 141; refine (hC.out _).mono ?_; rintro e w' ⟨rfl, rfl⟩)
          go_roundw
          case rel => exact ⟨j + 1, by omega, by omega, by go_num, by rw [HM.out]; simp, by rw [HS.out]; exact HR.out.set j _, HT.out.other (p := ⟨g, j, none⟩) HGG.out HBQ.out.lt _⟩
          case measure => simp [intOf]; omega
        · have H2 := HST.out (upC c) (by rw [hk16, hk18, hff]; rfl)
          have HS := Lib.hid H2.1
          have HM := Lib.hid H2.2
          have hf2 : metB l a j = false := by simpa using hff
          rw [hk16] at h16
          rw [hk18] at h18
          have K16 := Lib.hid hk16
          have K18 := Lib.hid hk18
          clear H2 hk16 hk18 hff
          go_wp2_with (go_at_call 141; refine (hC.out _).mono ?_; rintro e w' ⟨rfl, rfl⟩)
          go_roundw
          case rel => exact ⟨j + 1, by omega, by omega, by go_num, by rw [HM.out]; simp, by rw [HS.out]; exact HR.out.set j _, HT.out.other (p := ⟨g, j, none⟩) HGG.out HBQ.out.lt _⟩
          case measure => simp [intOf]; omega
        · have H2 := HST.out (upC c) (by rw [hk16, hk18, hff]; rfl)
          have HS := Lib.hid H2.1
          have HM := Lib.hid H2.2
          have hf2 : metB l a j = true := by simpa using hff
          rw [hk16] at h16
          rw [hk18] at h18
          have K16 := Lib.hid hk16
          have K18 := Lib.hid hk18
          clear H2 hk16 hk18 hff
          go_wp2_with (go_at_call 141; refine (hC.out _).mono ?_; rintro e w' ⟨rfl, rfl⟩)
          go_roundw
          case rel => exact ⟨j + 1, by omega, by omega, by go_num, by rw [HM.out]; simp, by rw [HS.out]; exact HR.out.set j _, HT.out.other (p := ⟨g, j, none⟩) HGG.out HBQ.out.lt _⟩
          case measure => simp [intOf]; omega
        · have H2 := HST.out (upC c) (by rw [hk16, hk18, hff]; rfl)
          have HS := Lib.hid H2.1
          have HM := Lib.hid H2.2
          have hf2 : metB l a j = false := by simpa using hff
          rw [hk16] at h16
          rw [hk18] at h18
          have K16 := Lib.hid hk16
          have K18 := Lib.hid hk18
          clear H2 hk16 hk18 hff
          go_wp2_with (go_at_call 141; refine (hC.out _).mono ?_; rintro e w' ⟨rfl, rfl⟩)
          go_roundw
          case rel => exact ⟨j + 1, by omega, by omega, by go_num, by rw [HM.out]; simp, by rw [HS.out]; exact HR.out.set j _, HT.out.other (p := ⟨g, j, none⟩) HGG.out HBQ.out.lt _⟩
          case measure => simp [intOf]; omega
        · have H2 := HST.out (lowC c) (by rw [hk16, hk18, hff]; rfl)
          have HS := Lib.hid H2.1
          have HM := Lib.hid H2.2
          have hf2 : metB l a j = true := by simpa using hff
          rw [hk16] at h16
          rw [hk18] at h18
          have K16 := Lib.hid hk16
          have K18 := Lib.hid hk18
          clear H2 hk16 hk18 hff
          go_wp2_with (go_at_call 141; refine (hC.out _).mono ?_; rintro e w' ⟨rfl, rfl⟩)
          go_roundw
          case rel => exact ⟨j + 1, by omega, by omega, by go_num, by rw [HM.out]; simp, by rw [HS.out]; exact HR.out.set j _, HT.out.other (p := ⟨g, j, none⟩) HGG.out HBQ.out.lt _⟩
          case measure => simp [intOf]; omega
        · have H2 := HST.out (lowC c) (by rw [hk16, hk18, hff]; rfl)
          have HS := Lib.hid H2.1
          have HM := Lib.hid H2.2
          have hf2 : metB l a j = false := by simpa using hff
          rw [hk16] at h16
          rw [hk18] at h18
          have K16 := Lib.hid hk16
          have K18 := Lib.hid hk18
          clear H2 hk16 hk18 hff
          go_wp2_with (go_at_call 141; refine (hC.out _).mono ?_; rintro e w' ⟨rfl, rfl⟩)
          go_roundw
          case rel => exact ⟨j + 1, by omega, by omega, by go_num, by rw [HM.out]; simp, by rw [HS.out]; exact HR.out.set j _, HT.out.other (p := ⟨g, j, none⟩) HGG.out HBQ.out.lt _⟩
          case measure => simp [intOf]; omega
        · have H2 := HST.out (lowC c) (by rw [hk16, hk18, hff]; rfl)
          have HS := Lib.hid H2.1
          have HM := Lib.hid H2.2
          have hf2 : metB l a j = true := by simpa using hff
          rw [hk16] at h16
          rw [hk18] at h18
          have K16 := Lib.hid hk16
          have K18 := Lib.hid hk18
          clear H2 hk16 hk18 hff
          go_wp2_with (go_at_call 141; refine (hC.out _).mono ?_; rintro e w' ⟨rfl, rfl⟩)
          go_roundw
          case rel => exact ⟨j + 1, by omega, by omega, by go_num, by rw [HM.out]; simp, by rw [HS.out]; exact HR.out.set j _, HT.out.other (p := ⟨g, j, none⟩) HGG.out HBQ.out.lt _⟩
          case measure => simp [intOf]; omega
    · obtain rfl : j = n := by omega
      have kc := HR.out.back text.size cp (by rw [hll.out _ _ _ hj1 (by rw [hzl.out]; omega)]; exact hzl.out.symm)
      obtain ⟨c3, z3⟩ := HT.out.2.cell
      go_wp2
      go_end0
      rw [HL0.out]
      exact ⟨rfl, HQ.out.trans ((HT.out.set 0 _).set 1 _)⟩

end Go.Proofs.YtokmiommhfbkeaaGreatDoor
