/- QuoteIsConst: the closure of Word, and Word. -/
import Derived.Test.YtonejkomggpbbabGreatDoorQtWd
import Derived.Test.YtonejkomggpbbabGreatDoorQtMu
import Derived.Defers
import Derived.Recover
import Derived.WalkKit
import Derived.WalkLawsBesides
import Derived.BigQuiet
namespace Go.Proofs.YtonejkomggpbbabGreatDoor
open Go.RowKit Go.Shelf

/-- a problem in a box -/
def Prb (w : World) (x : Nat) (a c : Int) : Prop := w.heap[x]? = some (.cells #[.int .i64 a, .int .i64 c] 55 (0, 0))
theorem Prb.lt {w : World} {x : Nat} {a c : Int} (h : Prb w x a c) : x < w.heap.size := (Array.getElem?_eq_some_iff.1 h).1
theorem Prb.cells {w : World} {x : Nat} {a c : Int} (h : Prb w x a c) : w.cell? ⟨x, 0, none⟩ = some (.int .i64 a) ∧ w.cell? ⟨x, 1, none⟩ = some (.int .i64 c) ∧ ∀ i, w.frozen? ⟨x, i, none⟩ = false := by
  unfold Prb at h
  refine ⟨?_, ?_, ?_⟩
  all_goals first | simp [World.cell?, h] | simp [World.frozen?, h]
theorem Prb.set {w : World} {x : Nat} {a c : Int} (h : Prb w x a c) (a' c' : Int) : Prb ((w.setCell ⟨x, 0, none⟩ (.int .i64 a')).setCell ⟨x, 1, none⟩ (.int .i64 c')) x a' c' := by
  unfold Prb at h ⊢
  rw [heap_setCell_same _ _ _ _ _ _ (heap_setCell_same _ _ _ _ _ _ h)]
  rfl
theorem Prb.new (w : World) (a c : Int) : Prb (w.alloc (.cells #[.int .i64 a, .int .i64 c] 55)) w.heap.size a c := heap_alloc_new w _

theorem catch_idle (x : Nat) (w : World) :
    CallsD Tryz.prog 39 #[.pointer (some ⟨x, 0, none⟩)] .returning w fun e u' w' => e = .returned (.tuple #[]) ∧ u' = .returning ∧ w' = w := by
  refine callsD_of_wpS Tryz.func39 rfl fun c₀ cs hu => ?_
  apply wpS_seq
  apply wpS_region
  simp [wpOpsS, go_sem, recoverD, hu, Tryz.ntmps39, Exit.thenS]
  apply wpS_seq
  apply wpS_region
  simp [wpOpsS, go_sem, Exit.thenS]
  refine wpS_cond (t := false) (by simp [Act.eval, Array.replicate]) ?_
  simp only [Bool.false_eq_true, if_false]
  refine wpS_of_wp (wp_skip ?_)
  exact ⟨rfl, .returning, by rw [← hu], .tuple #[], results_none rfl _ _ _, rfl, rfl, rfl⟩

/-- what is asked of a text before it is read -/
def chkO (T : List UInt8) : Int := if 16384 < T.length then 2 else if 0 ≤ Lib.indexByte T 0 then 5 else 0
set_option maxHeartbeats 1600000 in
theorem checkText_any (T : List UInt8) (hT : T.length < 9223372036854775808) (w : World) : Calls Tryz.prog 24 #[.string (toB T)] w fun e w' => e = .returned (.int .i64 (chkO T)) ∧ w' = w := by
  have hsz := toB_size T
  have hI := Tryz.strings_IndexByte (toB T) 0 w
  rw [show (toB T).data.toList = T from by simp [toB], show ((0 : Int).toNat.toUInt8) = (0 : UInt8) from rfl] at hI
  by_cases h1 : 16384 < T.length
  · have e1 : (16384 : Int) < ((toB T).size : Int) := by omega
    go_enter Tryz.func24, Tryz.ntmps24
    go_wp2_with fail
    go_ret
    exact ⟨by unfold chkO; rw [if_pos h1]; rfl, rfl⟩
  · have e1 : ¬ (16384 : Int) < ((toB T).size : Int) := by omega
    by_cases h2 : 0 ≤ Lib.indexByte T 0
    · go_enter Tryz.func24, Tryz.ntmps24
      go_wp2_with fail
      refine hI.mono ?_
      rintro e w' ⟨rfl, rfl⟩
      go_wp2_with fail
      go_ret
      exact ⟨by unfold chkO; rw [if_neg h1, if_pos h2]; rfl, rfl⟩
    · go_enter Tryz.func24, Tryz.ntmps24
      go_wp2_with fail
      refine hI.mono ?_
      rintro e w' ⟨rfl, rfl⟩
      go_wp2_with fail
      go_ret
      exact ⟨by unfold chkO; rw [if_neg h1, if_neg (by omega)]; rfl, rfl⟩


/-- what the closure of Word leaves -/
structure WC (b y : Nat) (T s : List UInt8) (w w' : World) : Prop where
  word : ∃ v L, kindQ L ∧ catQ L = s ∧ L.length ≤ T.length ∧ w'.ownsRow w.heap.size 68 6 v L.length (rowQ L) ∧ One w' y 26 v
  fr : Fr2 w.heap.size b y w w'
set_option maxRecDepth 100000 in
set_option maxHeartbeats 3200000 in
theorem wclosure_any (b b6 y : Nat) (T s : List UInt8) (w : World) (h : Rd w b T T) (hq : QR T s) (hne : T ≠ []) (h6 : w.cell? ⟨b6, 0, none⟩ = some (.pointer (some ⟨b, 0, none⟩))) (h6l : b6 < w.heap.size) (h6b : b6 ≠ b) (h6y : b6 ≠ y) (hy : One w y 26 (.slice none 0 0)) (hyb : y ≠ b) :
    Calls Tryz.prog 26 #[.pointer (some ⟨b6, 0, none⟩), .pointer (some ⟨y, 0, none⟩)] w fun e w' => e = .returned (.tuple #[]) ∧ WC b y T s w w' := by
  have HPk := Lib.hid (peek_any b T T w h)
  unfold PeekGives at HPk
  rw [qr_skip hq] at HPk
  have HQR := Lib.hid hq
  have H6 := Lib.hid h6
  have HY := Lib.hid hy
  have hyl := hy.lt
  have hT := h.len
  have hbl := h.lt
  obtain ⟨c, r, hT0⟩ : ∃ c r, T = c :: r := by
    cases T with
    | nil => exact absurd rfl hne
    | cons c r => exact ⟨c, r, rfl⟩
  have hst := qr_head (hT0 ▸ hq)
  obtain ⟨_, _, h35⟩ := ops_none c hst
  have hc := c.toNat_lt
  have hne1 : ((c.toNat : Int) == -1) = false := by rw [beq_eq_false_iff_ne]; omega
  have hne2 : ((c.toNat : Int) == 35) = false := by
    rw [beq_eq_false_iff_ne]
    intro e
    exact h35 (UInt8.toNat.inj (by rw [show (35 : UInt8).toNat = 35 from rfl]; omega))
  rw [show headI T = (c.toNat : Int) by rw [hT0]; rfl] at HPk
  clear h hq hne hst h35 hy
  go_enter Tryz.func26, Tryz.ntmps26
  go_wp2_with fail
  refine HPk.out.mono ?_
  rintro e w1 ⟨rfl, hr1, ho1⟩
  have h61 := (World.cell?_of_block (a := ⟨b6, 0, none⟩) (ho1.block b6 h6l h6b)).trans H6.out
  have HY1 := Lib.hid (HY.out.only ho1 hyb)
  have HO1 := Lib.hid ho1
  have hl1 : b6 < w1.heap.size := Nat.lt_of_lt_of_le h6l ho1.size
  have HW := Lib.hid (word_any b T T s w1 hr1 HQR.out hT)
  clear h6 hr1 ho1
  go_wp2_with fail
  refine HW.out.mono ?_
  rintro e w2 ⟨v, L, rfl, hk, hcat, hn, hown, hr2, ho2⟩
  obtain ⟨A, cp, rfl⟩ := own_form hown
  have h62 := (World.cell?_of_block (a := ⟨b6, 0, none⟩) (ho2.block b6 hl1 h6b)).trans h61
  have HY2 := Lib.hid (HY1.out.only ho2 hyb)
  have HO2 := Lib.hid (HO1.out.trans ho2)
  have hs1 := HO1.out.size
  have HW2 := Lib.hid (And.intro hk (And.intro hcat (And.intro hn (own_lower hown hs1))))
  have HR2 := Lib.hid hr2
  have hl2 : b6 < w2.heap.size := Nat.lt_of_lt_of_le hl1 ho2.size
  have hyw : y < w.heap.size := hyl
  clear hk hcat hn hown hr2 ho2 h61
  have cy := HY2.out.cell
  have zy := HY2.out.fz
  go_upto_region 4 with fail
  have O3 := (Only.refl y w2).setCell (i := 0) (.slice A L.length cp)
  have HR3 := Lib.hid (HR2.out.only O3 (fun e => hyb e.symm))
  have HY3 := Lib.hid (HY2.out.set (.slice A L.length cp))
  have h63 := (World.cell?_of_block (a := ⟨b6, 0, none⟩) (O3.block b6 hl2 h6y)).trans h62
  have HOw := Lib.hid (ownsRow_setCell_below (a := ⟨y, 0, none⟩) HW2.out.2.2.2 hyw (.slice A L.length cp))
  have HF3 := Lib.hid (show Fr2 w.heap.size b y w (w2.setCell ⟨y, 0, none⟩ (.slice A L.length cp)) from ⟨O3.os.trans HO2.out.os, O3.tape.trans HO2.out.tape, O3.output.trans HO2.out.output, Nat.le_trans HO2.out.size O3.size, fun k hk hb hy => (O3.block k (Nat.lt_of_lt_of_le hk HO2.out.size) hy).trans (HO2.out.block k hk hb)⟩)
  have hl3 : b6 < (w2.setCell ⟨y, 0, none⟩ (.slice A L.length cp)).heap.size := Nat.lt_of_lt_of_le hl2 O3.size
  clear O3 cy zy h62
  generalize w2.setCell ⟨y, 0, none⟩ (.slice A L.length cp) = w3 at *
  have HP3 := Lib.hid (peek_any b T [] w3 HR3.out)
  unfold PeekGives at HP3
  rw [show headI (skipJ []) = -1 from rfl] at HP3
  go_wp2_with fail
  refine HP3.out.mono ?_
  rintro e w4 ⟨rfl, hr4, ho4⟩
  have HZ := Lib.hid (show WC b y T s w w4 from ⟨⟨.slice A L.length cp, L, HW2.out.1, HW2.out.2.1, HW2.out.2.2.1, own_only HOw.out ho4 hbl, HY3.out.only ho4 hyb⟩, HF3.out.only ho4 HF3.out.size⟩)
  clear hr4 ho4
  go_wp2_with fail
  go_end0
  exact ⟨rfl, HZ.out⟩
set_option maxRecDepth 100000 in
set_option maxHeartbeats 3200000 in
theorem wcaught_any (cap : Array Value) (R : World → Prop) (w : World) (HC : Calls Tryz.prog 26 cap (w.alloc (.cells #[.int .i64 0, .int .i64 0] 55)) fun e w' => e = .returned (.tuple #[]) ∧ R w')
    (HR : ∀ w2, R w2 → Prb w2 w.heap.size 0 0) :
    Calls Tryz.prog 25 #[.func (.func 26) #[] cap] w fun e w' => e = .returned (.agg #[.int .i64 0, .int .i64 0]) ∧ ∃ w2, R w2 ∧ Only w.heap.size w2 w' := by
  have hmf : ∀ (fn : Fn) (first cap : Array Value) (w : World), (Instr.makeFunc fn first cap).run Tryz.prog w = .ok (.func fn first cap) w := fun _ _ _ _ => rfl
  go_enter_defers Tryz.func25, Tryz.ntmps25
  go_wp2_with fail
  refine HC.mono ?_
  rintro e w2 ⟨rfl, hr⟩
  have hp := HR w2 hr
  obtain ⟨d0, d1, df⟩ := hp.cells
  go_wp2_with fail
  have HZ := Lib.hid (hp.set 0 0)
  have HO : Only w.heap.size w2 ((w2.setCell ⟨w.heap.size, 0, none⟩ (.int .i64 0)).setCell ⟨w.heap.size, 1, none⟩ (.int .i64 0)) := ((Only.refl _ w2).setCell _).setCell _
  have HOO := Lib.hid HO
  clear HO
  generalize (w2.setCell ⟨w.heap.size, 0, none⟩ (.int .i64 0)).setCell ⟨w.heap.size, 1, none⟩ (.int .i64 0) = wz at *
  refine leaves_cons (f := 39) (args := #[.pointer (some ⟨w.heap.size, 0, none⟩)]) (by simp) (by simp [go_sem]) ?_
  refine (catch_idle w.heap.size _).mono ?_
  rintro e u' w'' ⟨rfl, rfl, rfl⟩
  obtain ⟨q0, q1, qf⟩ := HZ.out.cells
  simp [Leaves, settle, results, Tryz.results25, go_sem, q0, q1]
  exact ⟨_, hr, HOO.out⟩
end Go.Proofs.YtonejkomggpbbabGreatDoor
