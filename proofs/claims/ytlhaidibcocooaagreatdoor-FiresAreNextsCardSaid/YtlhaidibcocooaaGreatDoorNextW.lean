/- NextIsLeast: the law's walk. -/
import Derived.Test.YtlhaidibcocooaaGreatDoorNextG
import Derived.Test.YtlhaidibcocooaaGreatDoorTextH
namespace Go.Proofs.YtlhaidibcocooaaGreatDoor
open Go.RowKit

/-- the law's 'within' -/
def pwL (n low high : Int) : Int := low + n.tmod (high - low + 1) % (high - low + 1)
theorem pwL_range (n low high : Int) (h : low ≤ high) : low ≤ pwL n low high ∧ pwL n low high ≤ high := by
  unfold pwL
  have a1 := Int.emod_nonneg (n.tmod (high - low + 1)) (show high - low + 1 ≠ 0 by omega)
  have a2 := Int.emod_lt_of_pos (n.tmod (high - low + 1)) (show 0 < high - low + 1 by omega)
  omega
set_option maxHeartbeats 800000 in
theorem lwithin_any (n low high : Int) (w : World) (h0 : 0 ≤ low) (h1 : low ≤ high) (h2 : high ≤ 1000000000) :
    Calls Tryz.prog 12 #[.int .i64 n, .int .i64 low, .int .i64 high] w fun e w' => e = .returned (.int .i64 (pwL n low high)) ∧ w = w' := by
  have HP := Lib.hid (show pwL n low high = low + n.tmod (high - low + 1) % (high - low + 1) from rfl)
  generalize pwL n low high = r at *
  obtain ⟨m, hm⟩ : ∃ m, high - low + 1 = m := ⟨_, rfl⟩
  rw [hm] at HP
  have hz : (m == 0) = false := by rw [beq_eq_false_iff_ne]; omega
  have ht := tmod_lt' n m (by omega)
  have hm0 : 0 < m := by omega
  have hm1 : m ≤ 1000000001 := by omega
  go_enter Tryz.func12, Tryz.ntmps12
  go_wp2
  go_ret
  have a1 := Int.emod_nonneg (n.tmod m) (show m ≠ 0 by omega)
  have a2 := Int.emod_lt_of_pos (n.tmod m) hm0
  have hw : wrap64 (low + n.tmod m % m) = low + n.tmod m % m := by unfold wrap64; omega
  exact ⟨ret_int (by rw [HP.out]; first | rfl | exact hw | omega), rfl⟩

theorem RawN.keep {w w' : World} {A : Option Addr} {n c : Nat} (h : RawN w A n c) (hb : Below w.heap.size w w') : RawN w' A n c := by
  refine ⟨h.1, h.2.1, fun hn => ?_⟩
  obtain ⟨g, off, rfl, hg, hx⟩ := h.2.2 hn
  refine ⟨g, off, rfl, Nat.lt_of_lt_of_le hg hb.size, fun j hj => ?_⟩
  obtain ⟨x, hx⟩ := hx j hj
  exact ⟨x, (hb.cell (p := ⟨g, off + j, none⟩) hg).trans hx⟩
/-- what the text of numbers is read as -/
def ReadsAs (tx : ByteArray) : Prop := ∀ W, MaxLenAt W → Calls Tryz.prog 10 #[.string tx] W (SomeTimes W)
theorem text_tx (A : Option Addr) (n c : Nat) (w : World) (h : RawN w A n c) : Calls Tryz.prog 11 #[.slice A n c] w fun e w' => ∃ tx, e = .returned (.string tx) ∧ ReadsAs tx ∧ Below w.heap.size w w' :=
  (text_any A n c w h).mono fun _ _ ⟨F, he, hF, hb⟩ => ⟨_, he, fun W hW => text_reads F hF W hW, hb⟩

set_option maxRecDepth 100000 in
set_option maxHeartbeats 3200000 in
theorem next_walk (A : Option Addr) (n c : Nat) (m : Int) (w : World) (hr : RawN w A n c) (hm : MaxLenAt w) (hT : DebAt w) :
    Calls Tryz.prog 4 #[.slice A n c, .int .i64 m] w fun e w' => e = .returned (.bool true) ∧ Below w.heap.size w w' := by
  have HR := Lib.hid hr
  have HM := Lib.hid hm
  have HT := Lib.hid hT
  clear hr hm hT
  go_enter Tryz.func4, Tryz.ntmps4
  go_wp2_with fail
  refine (landed_any _).mono ?_
  rintro e w2 ⟨rfl, hb2⟩
  have HB2 := Lib.hid hb2
  clear hb2
  go_wp2_with fail
  refine (text_tx A n c _ (HR.out.keep HB2.out)).mono ?_
  rintro e w3 ⟨tx, rfl, htx, hb3⟩
  have HTx := Lib.hid htx
  have HB3 := Lib.hid (HB2.out.trans (hb3.mono HB2.out.size))
  clear htx hb3 HB2
  go_wp2_with fail
  refine (HTx.out _ (HM.out.keep HB3.out)).mono ?_
  rintro e w4 ⟨⟨a0, a1, a2, a3, a4, b5, b6, rfl, l0, l1, l2, l3, l4⟩ | ⟨er, her, rfl⟩, hb4⟩
  · have HB4 := Lib.hid (HB3.out.trans (hb4.mono HB3.out.size))
    have HX := Lib.hid (BX.start w4 #[.int .u64 (a0 : Int), .int .u64 (a1 : Int), .int .u64 (a2 : Int), .int .u64 (a3 : Int), .int .u64 (a4 : Int), .bool b5, .bool b6] 24)
    obtain ⟨s, er, hp, hs⟩ := print_facts a0 a1 a2 a3 a4 b5 b6 l0
    have HNx := Lib.hid (fun mm W hW => next_any a0 a1 a2 a3 a4 b5 b6 s er mm W l0 l1 l2 l3 l4 hp hs hW)
    have HRn := Lib.hid (fun mm W hW => rNext_any a0 a1 a2 a3 a4 b5 b6 s er mm W l0 l1 l2 l3 l4 hp hW)
    clear hb4 HB3 l0 l1 l2 l3 l4 hp hs
    have cx := HX.out.cells
    by_cases hbt : (bits BinOp.and IntKind.i64 m 7 != 0) = true
    · go_wp2_with fail
      refine (lwithin_any m 15778080 68374079 _ (by omega) (by omega) (by omega)).mono ?_
      rintro e w5 ⟨rfl, rfl⟩
      generalize pwL m 15778080 68374079 = mm at *
      go_wp2_with fail
      generalize w4.alloc (.cells #[.int .u64 (a0 : Int), .int .u64 (a1 : Int), .int .u64 (a2 : Int), .int .u64 (a3 : Int), .int .u64 (a4 : Int), .bool b5, .bool b6] 24) = wx at *
      refine (HNx.out mm _ (HT.out.keep (HB4.out.trans (HX.out.below.mono HB4.out.size)))).mono ?_
      rintro e w6 ⟨v, hv, rfl, hb6⟩
      obtain ⟨n1, e1, rfl⟩ := next_form hv
      have HV := Lib.hid hv
      have HX6 := Lib.hid (HX.out.keep hb6)
      clear cx hb6 HX hv
      have cx := HX6.out.cells
      go_wp2_with fail
      refine (HRn.out mm _ (HM.out.keep (HB4.out.trans (HX6.out.below.mono HB4.out.size)))).mono ?_
      rintro e w7 ⟨v2, hv2, rfl, hb7⟩
      have hv3 := next_unique HV.out hv2
      subst hv3
      have HB7 := Lib.hid (HB4.out.trans ((HX6.out.keep hb7).below.mono HB4.out.size))
      clear cx hb7 HX6 hv2 HV
      go_wp2_with fail
      go_ret
      exact ⟨rfl, HB7.out⟩
    · have hbf : (bits BinOp.and IntKind.i64 m 7 != 0) = false := by simpa using hbt
      clear hbt
      go_wp2_with fail
      generalize w4.alloc (.cells #[.int .u64 (a0 : Int), .int .u64 (a1 : Int), .int .u64 (a2 : Int), .int .u64 (a3 : Int), .int .u64 (a4 : Int), .bool b5, .bool b6] 24) = wx at *
      refine (HNx.out m _ (HT.out.keep (HB4.out.trans (HX.out.below.mono HB4.out.size)))).mono ?_
      rintro e w6 ⟨v, hv, rfl, hb6⟩
      obtain ⟨n1, e1, rfl⟩ := next_form hv
      have HV := Lib.hid hv
      have HX6 := Lib.hid (HX.out.keep hb6)
      clear cx hb6 HX hv
      have cx := HX6.out.cells
      go_wp2_with fail
      refine (HRn.out m _ (HM.out.keep (HB4.out.trans (HX6.out.below.mono HB4.out.size)))).mono ?_
      rintro e w7 ⟨v2, hv2, rfl, hb7⟩
      have hv3 := next_unique HV.out hv2
      subst hv3
      have HB7 := Lib.hid (HB4.out.trans ((HX6.out.keep hb7).below.mono HB4.out.size))
      clear cx hb7 HX6 hv2 HV
      go_wp2_with fail
      go_ret
      exact ⟨rfl, HB7.out⟩
  · have HB4 := Lib.hid (HB3.out.trans (hb4.mono HB3.out.size))
    unfold zeroT
    have h1 : ((er : Int) != 0) = true := by simpa using her
    have h2 : ((er : Int) == 0) = false := by simpa using her
    clear hb4 HB3 her
    go_wp2_with fail
    go_ret
    have hb7 := HB4.out.trans (((Below.refl w4.heap.size w4).alloc (Nat.le_refl _) (.cells zeroT 24)).mono HB4.out.size)
    unfold zeroT at hb7
    exact ⟨rfl, hb7⟩

end Go.Proofs.YtlhaidibcocooaaGreatDoor
