/- Times, the reference: PrintTimes. (Printed by tools/grprint.py.) -/
import Derived.Test.YtlhaidibcocooaaGreatDoorTimesV
import Derived.Test.YtlhaidibcocooaaGreatDoorTimesE
import Derived.RegionTactic
import Derived.ChangeAlike
namespace Go.Proofs.YtlhaidibcocooaaGreatDoor
open Go.RowKit

/-- the two blocks that the walk reads -/
structure T2 (w wx : World) (bg : Nat) (xs gs : Array Value) : Prop where
  below : Below w.heap.size w wx
  cx : ∀ j, wx.cell? ⟨w.heap.size, j, none⟩ = xs[j]?
  cg : ∀ j, wx.cell? ⟨bg, j, none⟩ = gs[j]?
  lt : w.heap.size < wx.heap.size ∧ bg < wx.heap.size
theorem T2.keep {w wx wy : World} {bg : Nat} {xs gs : Array Value} (h : T2 w wx bg xs gs) (hb : Below wx.heap.size wx wy) : T2 w wy bg xs gs :=
  ⟨h.below.trans (hb.mono h.below.size), fun j => (hb.cell (p := ⟨w.heap.size, j, none⟩) h.lt.1).trans (h.cx j), fun j => (hb.cell (p := ⟨bg, j, none⟩) h.lt.2).trans (h.cg j), Nat.lt_of_lt_of_le h.lt.1 hb.size, Nat.lt_of_lt_of_le h.lt.2 hb.size⟩
theorem T2.start {w : World} {xs gs : Array Value} {T U : TypeId} : T2 w ((w.alloc (.cells xs T)).alloc (.cells gs U)) (w.heap.size + 1) xs gs := by
  have h1 := BX.start w xs T
  have b2 := (Below.refl (w.alloc (.cells xs T)).heap.size (w.alloc (.cells xs T))).alloc (Nat.le_refl _) (.cells gs U)
  have h2 := h1.keep b2
  refine ⟨h2.below, h2.cells, fun j => ?_, h2.lt, by simp⟩
  have := box_cell (w.alloc (.cells xs T)) gs U j
  rw [show (w.alloc (.cells xs T)).heap.size = w.heap.size + 1 by simp] at this
  exact this
theorem below_alloc2 (w : World) (a b : Obj) : Below w.heap.size w ((w.alloc a).alloc b).drew ∧ Below w.heap.size w (w.alloc a).drew :=
  ⟨(((Below.refl w.heap.size w).alloc (Nat.le_refl _) a).alloc (by simp) b).drew, ((Below.refl w.heap.size w).alloc (Nat.le_refl _) a).drew⟩

set_option maxRecDepth 100000 in
set_option maxHeartbeats 16000000 in
theorem rprint_any (a0 a1 a2 a3 a4 : Nat) (b5 b6 : Bool) (w : World) (h0 : a0 < 18446744073709551616) (h1 : a1 < 18446744073709551616) (h2 : a2 < 18446744073709551616) (h3 : a3 < 18446744073709551616) (h4 : a4 < 18446744073709551616) (hsz : ∀ j, j < 5 → (fieldB (fieldK a0 a1 a2 a3 a4 b5 b6) j).size ≤ 100000) (hm : MaxLenAt w) :
    Calls Tryz.prog 9 #[.agg #[.int .u64 (a0 : Int), .int .u64 (a1 : Int), .int .u64 (a2 : Int), .int .u64 (a3 : Int), .int .u64 (a4 : Int), .bool b5, .bool b6]] w fun e w' => e = .returned (printV (fieldK a0 a1 a2 a3 a4 b5 b6)) ∧ Below w.heap.size w w' := by
  have HBk := Lib.hid (fun W hall hmW => back_any a0 a1 a2 a3 a4 b5 b6 W h0 h1 h2 h3 h4 hall hmW)
  obtain ⟨K, hK⟩ : ∃ K, fieldK a0 a1 a2 a3 a4 b5 b6 = K := ⟨_, rfl⟩
  rw [hK] at hsz HBk
  rw [hK]
  have HW0 : Hid (∀ W, Calls Tryz.prog 25 #[.int .u64 (a0 : Int), .int .i64 0, .int .i64 59, .bool false, .bool false] W fun e w' => e = .returned (fieldV (K 0)) ∧ Below W.heap.size W w') := Lib.hid (by
    intro W
    rw [← hK]
    exact show_any 0 59 false a0 false false W h0 (by decide) (by decide) (by decide))
  have HW1 : Hid (∀ W, Calls Tryz.prog 25 #[.int .u64 (a1 : Int), .int .i64 0, .int .i64 23, .bool false, .bool false] W fun e w' => e = .returned (fieldV (K 1)) ∧ Below W.heap.size W w') := Lib.hid (by
    intro W
    rw [← hK]
    exact show_any 0 23 false a1 false false W h1 (by decide) (by decide) (by decide))
  have HW2 : Hid (∀ W, Calls Tryz.prog 25 #[.int .u64 (a2 : Int), .int .i64 1, .int .i64 31, .bool b5, .bool true] W fun e w' => e = .returned (fieldV (K 2)) ∧ Below W.heap.size W w') := Lib.hid (by
    intro W
    rw [← hK]
    exact show_any 1 31 false a2 true b5 W h2 (by decide) (by decide) (by decide))
  have HW3 : Hid (∀ W, Calls Tryz.prog 25 #[.int .u64 (a3 : Int), .int .i64 1, .int .i64 12, .bool false, .bool false] W fun e w' => e = .returned (fieldV (K 3)) ∧ Below W.heap.size W w') := Lib.hid (by
    intro W
    rw [← hK]
    exact show_any 1 12 false a3 false false W h3 (by decide) (by decide) (by decide))
  have HW4 : Hid (∀ W, Calls Tryz.prog 25 #[.int .u64 (a4 : Int), .int .i64 0, .int .i64 6, .bool b6, .bool true] W fun e w' => e = .returned (fieldV (K 4)) ∧ Below W.heap.size W w') := Lib.hid (by
    intro W
    rw [← hK]
    exact show_any 0 6 true a4 true b6 W h4 (by decide) (by decide) (by decide))
  have HSZ := Lib.hid hsz
  have HM := Lib.hid hm
  have HX := Lib.hid (T2.start (w := w) (xs := #[.int .u64 (a0 : Int), .int .u64 (a1 : Int), .int .u64 (a2 : Int), .int .u64 (a3 : Int), .int .u64 (a4 : Int), .bool b5, .bool b6]) (gs := #[.int .u64 (a0 : Int), .int .u64 (a1 : Int), .int .u64 (a2 : Int), .int .u64 (a3 : Int), .int .u64 (a4 : Int)]) (T := 24) (U := 22))
  obtain ⟨c1, l1⟩ : (∀ j, (w.alloc (.cells #[.int .u64 (a0 : Int), .int .u64 (a1 : Int), .int .u64 (a2 : Int), .int .u64 (a3 : Int), .int .u64 (a4 : Int), .bool b5, .bool b6] 24)).cell? ⟨w.heap.size, j, none⟩ = (#[Value.int .u64 (a0 : Int), .int .u64 (a1 : Int), .int .u64 (a2 : Int), .int .u64 (a3 : Int), .int .u64 (a4 : Int), .bool b5, .bool b6] : Array Value)[j]?) ∧ w.heap.size < (w.alloc (.cells #[.int .u64 (a0 : Int), .int .u64 (a1 : Int), .int .u64 (a2 : Int), .int .u64 (a3 : Int), .int .u64 (a4 : Int), .bool b5, .bool b6] 24)).heap.size := ⟨box_cell w _ _, by simp⟩
  obtain ⟨V, hV⟩ : ∃ V, printV K = V := ⟨_, rfl⟩
  rw [hV]
  have HV := Lib.hid hV
  clear hV hK hsz h0 h1 h2 h3 h4 hm
  obtain ⟨i0, hi, hz0, hz1, hz2⟩ := info_parts info_text
  go_enter Tryz.func9, Tryz.ntmps9
  go_wp2_with fail
  generalize (w.alloc (.cells #[.int .u64 (a0 : Int), .int .u64 (a1 : Int), .int .u64 (a2 : Int), .int .u64 (a3 : Int), .int .u64 (a4 : Int), .bool b5, .bool b6] 24)).alloc (.cells #[.int .u64 (a0 : Int), .int .u64 (a1 : Int), .int .u64 (a2 : Int), .int .u64 (a3 : Int), .int .u64 (a4 : Int)] 22) = w3 at *
  generalize w.heap.size + 1 = bg at *
  clear c1 l1
  go_loopw [4, 27] (fun s4 s27 wr => ∃ (v : Value) (i : Nat), v = s4 ∧ s27 = .int .i64 (i : Int) ∧ i ≤ 5 ∧ Hid (∀ j, j < i → (K j).isSome = true) ∧ Hid (OT w3 wr v ((List.range i).map (fieldB K)))) (fun _ s27 _ => 5 - (intOf s27).toNat)
  case atStart => exact ⟨_, 0, rfl, rfl, by decide, fun j hj => absurd hj (Nat.not_lt_zero _), ⟨⟨rfl, .inl ⟨rfl, rfl⟩⟩, Below.refl _ _⟩⟩
  case round =>
    obtain ⟨v, i, rfl, rfl, hi5, HS, HO⟩ := hrel
    have HTr := Lib.hid (HX.out.keep HO.out.below)
    by_cases hlt : i < 5
    · obtain ⟨LL, hLL⟩ : ∃ LL, (List.range i).map (fieldB K) = LL := ⟨_, rfl⟩
      have hLn : LL.length ≤ 5 := by rw [← hLL]; simp; omega
      have hLs : LL ++ [fieldB K i] = (List.range (i + 1)).map (fieldB K) := by rw [← hLL, List.range_succ, List.map_append]; rfl
      have HLs := Lib.hid hLs
      rw [hLL] at HO
      have HM2 := Lib.hid (show LL.length + 1 ≤ maxLen ∧ (LL.length + 1) * 16 ≤ 140737488355328 from ⟨by unfold maxLen; omega, by omega⟩)
      clear hLL hLs HX hLn
      have hcase : i = 0 ∨ i = 1 ∨ (i = 2 ∧ b5 = true) ∨ (i = 2 ∧ b5 = false) ∨ i = 3 ∨ (i = 4 ∧ b6 = true) ∨ (i = 4 ∧ b6 = false) := by
        cases b5 <;> cases b6 <;> simp <;> omega
      rcases hcase with rfl | rfl | ⟨rfl, rfl⟩ | ⟨rfl, rfl⟩ | rfl | ⟨rfl, rfl⟩ | ⟨rfl, rfl⟩
      · skip
        have g0 : wr.cell? ⟨bg, 0, none⟩ = some (.int .u64 (a0 : Int)) := HTr.out.cg 0
        clear HW1 HW2 HW3 HW4
        go_upto_region 5 with fail
        clear g0
        go_cut [7, 8] (fun s7 s8 wx => s7 = .int .i64 0 ∧ s8 = .int .i64 59 ∧ Hid (Below wr.heap.size wr wx))
        case first =>
          go_region
          all_goals (go_wp2_with fail; go_meet)
          all_goals exact ⟨rfl, rfl, Lib.hid (by first | exact (below_alloc2 _ _ _).1 | exact (below_alloc2 _ _ _).2)⟩
        case rest =>
          obtain ⟨rfl, rfl, HBc⟩ := hcut
          have HT6 := Lib.hid (HTr.out.keep HBc.out)
          have HO6 := Lib.hid (HO.out.keep HBc.out)
          clear HBc HO HTr
          go_wp2_with fail
          refine (HW0.out _).mono ?_
          rintro e w5 ⟨rfl, hb5⟩
          have HO5 := Lib.hid (HO6.out.keep hb5)
          have HB5 := Lib.hid (HT6.out.keep hb5).below
          clear hb5 HT6 HO6 
          cases hk : K 0 with
          | none =>
            have hVn : V = .tuple #[.string ⟨#[]⟩, .int .i64 5] := by
              rw [← HV.out]
              unfold printV
              rw [if_neg (by intro h; have := List.all_eq_true.1 h 0 (by decide); rw [hk] at this; cases this)]
            have HVn := Lib.hid hVn
            clear hVn
            unfold fieldV
            dsimp only
            go_wp2_with fail
            go_ret2
            exact ⟨by rw [HVn.out]; rfl, HB5.out⟩
          | some l =>
            obtain ⟨tx, htx⟩ : ∃ tx : ByteArray, (⟨(fieldT l).toArray⟩ : ByteArray) = tx := ⟨_, rfl⟩
            have hfb : fieldB K 0 = tx := by rw [← htx]; unfold fieldB; rw [hk]; rfl
            have HFB := Lib.hid hfb
            have hKs : (K 0).isSome = true := by rw [hk]; rfl
            have HKs := Lib.hid hKs
            unfold fieldV
            dsimp only
            rw [htx]
            clear hfb hKs hk htx
            go_upto_region 10 with fail
            iterate 10 (first | go_values | go_skip | go_guarded | go_step | go_upon | go_back)
            refine wpList_append_own _ rfl _ _ 63 rfl w3.heap.size 9 i0 (.string ⟨#[]⟩) 1 16 Tryz.underlying63 hi hz0 hz1 hz2 rfl (by decide) v LL.length _ rfl (HO5.out.alloc _).own _ 1 1 [.string tx] rfl rfl (World.news_of_block (heap_alloc_new _ _)) (fun z hz => by simp at hz; subst hz; rfl) HM2.out.1 HM2.out.2 (Nat.le_trans HO5.out.below.size (by simp)) ?_
            intro v6 w6 hown6 hg6 _
            have HO6 := Lib.hid (OT.app (HO5.out.alloc _) hown6 hg6)
            clear hown6 hg6
            go_wp2_with fail
            exact ⟨⟨v6, 1, rfl, by go_num, by omega, Lib.hid (fun j hj => by rcases Nat.lt_or_ge j 0 with h | h; exact HS.out j h; (have : j = 0 := by omega); subst this; exact HKs.out), by rw [← HLs.out, HFB.out]; exact HO6⟩, by simp [intOf]⟩
      · skip
        have g0 : wr.cell? ⟨bg, 1, none⟩ = some (.int .u64 (a1 : Int)) := HTr.out.cg 1
        clear HW0 HW2 HW3 HW4
        go_upto_region 5 with fail
        clear g0
        go_cut [7, 8] (fun s7 s8 wx => s7 = .int .i64 0 ∧ s8 = .int .i64 23 ∧ Hid (Below wr.heap.size wr wx))
        case first =>
          go_region
          all_goals (go_wp2_with fail; go_meet)
          all_goals exact ⟨rfl, rfl, Lib.hid (by first | exact (below_alloc2 _ _ _).1 | exact (below_alloc2 _ _ _).2)⟩
        case rest =>
          obtain ⟨rfl, rfl, HBc⟩ := hcut
          have HT6 := Lib.hid (HTr.out.keep HBc.out)
          have HO6 := Lib.hid (HO.out.keep HBc.out)
          clear HBc HO HTr
          go_wp2_with fail
          refine (HW1.out _).mono ?_
          rintro e w5 ⟨rfl, hb5⟩
          have HO5 := Lib.hid (HO6.out.keep hb5)
          have HB5 := Lib.hid (HT6.out.keep hb5).below
          clear hb5 HT6 HO6 
          cases hk : K 1 with
          | none =>
            have hVn : V = .tuple #[.string ⟨#[]⟩, .int .i64 5] := by
              rw [← HV.out]
              unfold printV
              rw [if_neg (by intro h; have := List.all_eq_true.1 h 1 (by decide); rw [hk] at this; cases this)]
            have HVn := Lib.hid hVn
            clear hVn
            unfold fieldV
            dsimp only
            go_wp2_with fail
            go_ret2
            exact ⟨by rw [HVn.out]; rfl, HB5.out⟩
          | some l =>
            obtain ⟨tx, htx⟩ : ∃ tx : ByteArray, (⟨(fieldT l).toArray⟩ : ByteArray) = tx := ⟨_, rfl⟩
            have hfb : fieldB K 1 = tx := by rw [← htx]; unfold fieldB; rw [hk]; rfl
            have HFB := Lib.hid hfb
            have hKs : (K 1).isSome = true := by rw [hk]; rfl
            have HKs := Lib.hid hKs
            unfold fieldV
            dsimp only
            rw [htx]
            clear hfb hKs hk htx
            go_upto_region 10 with fail
            iterate 10 (first | go_values | go_skip | go_guarded | go_step | go_upon | go_back)
            refine wpList_append_own _ rfl _ _ 63 rfl w3.heap.size 9 i0 (.string ⟨#[]⟩) 1 16 Tryz.underlying63 hi hz0 hz1 hz2 rfl (by decide) v LL.length _ rfl (HO5.out.alloc _).own _ 1 1 [.string tx] rfl rfl (World.news_of_block (heap_alloc_new _ _)) (fun z hz => by simp at hz; subst hz; rfl) HM2.out.1 HM2.out.2 (Nat.le_trans HO5.out.below.size (by simp)) ?_
            intro v6 w6 hown6 hg6 _
            have HO6 := Lib.hid (OT.app (HO5.out.alloc _) hown6 hg6)
            clear hown6 hg6
            go_wp2_with fail
            exact ⟨⟨v6, 2, rfl, by go_num, by omega, Lib.hid (fun j hj => by rcases Nat.lt_or_ge j 1 with h | h; exact HS.out j h; (have : j = 1 := by omega); subst this; exact HKs.out), by rw [← HLs.out, HFB.out]; exact HO6⟩, by simp [intOf]⟩
      · skip
        have g0 : wr.cell? ⟨bg, 2, none⟩ = some (.int .u64 (a2 : Int)) := HTr.out.cg 2
        clear HW0 HW1 HW3 HW4
        go_upto_region 5 with fail
        clear g0
        go_cut [7, 8] (fun s7 s8 wx => s7 = .int .i64 1 ∧ s8 = .int .i64 31 ∧ Hid (Below wr.heap.size wr wx))
        case first =>
          go_region
          all_goals (go_wp2_with fail; go_meet)
          all_goals exact ⟨rfl, rfl, Lib.hid (by first | exact (below_alloc2 _ _ _).1 | exact (below_alloc2 _ _ _).2)⟩
        case rest =>
          obtain ⟨rfl, rfl, HBc⟩ := hcut
          have HT6 := Lib.hid (HTr.out.keep HBc.out)
          have HO6 := Lib.hid (HO.out.keep HBc.out)
          clear HBc HO HTr
          have x2 : wc.cell? ⟨w.heap.size, 5, none⟩ = some (.bool true) := HT6.out.cx 5
          go_wp2_with fail
          refine (HW2.out _).mono ?_
          rintro e w5 ⟨rfl, hb5⟩
          have HO5 := Lib.hid (HO6.out.keep hb5)
          have HB5 := Lib.hid (HT6.out.keep hb5).below
          clear hb5 HT6 HO6 x2
          cases hk : K 2 with
          | none =>
            have hVn : V = .tuple #[.string ⟨#[]⟩, .int .i64 5] := by
              rw [← HV.out]
              unfold printV
              rw [if_neg (by intro h; have := List.all_eq_true.1 h 2 (by decide); rw [hk] at this; cases this)]
            have HVn := Lib.hid hVn
            clear hVn
            unfold fieldV
            dsimp only
            go_wp2_with fail
            go_ret2
            exact ⟨by rw [HVn.out]; rfl, HB5.out⟩
          | some l =>
            obtain ⟨tx, htx⟩ : ∃ tx : ByteArray, (⟨(fieldT l).toArray⟩ : ByteArray) = tx := ⟨_, rfl⟩
            have hfb : fieldB K 2 = tx := by rw [← htx]; unfold fieldB; rw [hk]; rfl
            have HFB := Lib.hid hfb
            have hKs : (K 2).isSome = true := by rw [hk]; rfl
            have HKs := Lib.hid hKs
            unfold fieldV
            dsimp only
            rw [htx]
            clear hfb hKs hk htx
            go_upto_region 10 with fail
            iterate 10 (first | go_values | go_skip | go_guarded | go_step | go_upon | go_back)
            refine wpList_append_own _ rfl _ _ 63 rfl w3.heap.size 9 i0 (.string ⟨#[]⟩) 1 16 Tryz.underlying63 hi hz0 hz1 hz2 rfl (by decide) v LL.length _ rfl (HO5.out.alloc _).own _ 1 1 [.string tx] rfl rfl (World.news_of_block (heap_alloc_new _ _)) (fun z hz => by simp at hz; subst hz; rfl) HM2.out.1 HM2.out.2 (Nat.le_trans HO5.out.below.size (by simp)) ?_
            intro v6 w6 hown6 hg6 _
            have HO6 := Lib.hid (OT.app (HO5.out.alloc _) hown6 hg6)
            clear hown6 hg6
            go_wp2_with fail
            exact ⟨⟨v6, 3, rfl, by go_num, by omega, Lib.hid (fun j hj => by rcases Nat.lt_or_ge j 2 with h | h; exact HS.out j h; (have : j = 2 := by omega); subst this; exact HKs.out), by rw [← HLs.out, HFB.out]; exact HO6⟩, by simp [intOf]⟩
      · skip
        have g0 : wr.cell? ⟨bg, 2, none⟩ = some (.int .u64 (a2 : Int)) := HTr.out.cg 2
        clear HW0 HW1 HW3 HW4
        go_upto_region 5 with fail
        clear g0
        go_cut [7, 8] (fun s7 s8 wx => s7 = .int .i64 1 ∧ s8 = .int .i64 31 ∧ Hid (Below wr.heap.size wr wx))
        case first =>
          go_region
          all_goals (go_wp2_with fail; go_meet)
          all_goals exact ⟨rfl, rfl, Lib.hid (by first | exact (below_alloc2 _ _ _).1 | exact (below_alloc2 _ _ _).2)⟩
        case rest =>
          obtain ⟨rfl, rfl, HBc⟩ := hcut
          have HT6 := Lib.hid (HTr.out.keep HBc.out)
          have HO6 := Lib.hid (HO.out.keep HBc.out)
          clear HBc HO HTr
          have x2 : wc.cell? ⟨w.heap.size, 5, none⟩ = some (.bool false) := HT6.out.cx 5
          go_wp2_with fail
          refine (HW2.out _).mono ?_
          rintro e w5 ⟨rfl, hb5⟩
          have HO5 := Lib.hid (HO6.out.keep hb5)
          have HB5 := Lib.hid (HT6.out.keep hb5).below
          clear hb5 HT6 HO6 x2
          cases hk : K 2 with
          | none =>
            have hVn : V = .tuple #[.string ⟨#[]⟩, .int .i64 5] := by
              rw [← HV.out]
              unfold printV
              rw [if_neg (by intro h; have := List.all_eq_true.1 h 2 (by decide); rw [hk] at this; cases this)]
            have HVn := Lib.hid hVn
            clear hVn
            unfold fieldV
            dsimp only
            go_wp2_with fail
            go_ret2
            exact ⟨by rw [HVn.out]; rfl, HB5.out⟩
          | some l =>
            obtain ⟨tx, htx⟩ : ∃ tx : ByteArray, (⟨(fieldT l).toArray⟩ : ByteArray) = tx := ⟨_, rfl⟩
            have hfb : fieldB K 2 = tx := by rw [← htx]; unfold fieldB; rw [hk]; rfl
            have HFB := Lib.hid hfb
            have hKs : (K 2).isSome = true := by rw [hk]; rfl
            have HKs := Lib.hid hKs
            unfold fieldV
            dsimp only
            rw [htx]
            clear hfb hKs hk htx
            go_upto_region 10 with fail
            iterate 10 (first | go_values | go_skip | go_guarded | go_step | go_upon | go_back)
            refine wpList_append_own _ rfl _ _ 63 rfl w3.heap.size 9 i0 (.string ⟨#[]⟩) 1 16 Tryz.underlying63 hi hz0 hz1 hz2 rfl (by decide) v LL.length _ rfl (HO5.out.alloc _).own _ 1 1 [.string tx] rfl rfl (World.news_of_block (heap_alloc_new _ _)) (fun z hz => by simp at hz; subst hz; rfl) HM2.out.1 HM2.out.2 (Nat.le_trans HO5.out.below.size (by simp)) ?_
            intro v6 w6 hown6 hg6 _
            have HO6 := Lib.hid (OT.app (HO5.out.alloc _) hown6 hg6)
            clear hown6 hg6
            go_wp2_with fail
            exact ⟨⟨v6, 3, rfl, by go_num, by omega, Lib.hid (fun j hj => by rcases Nat.lt_or_ge j 2 with h | h; exact HS.out j h; (have : j = 2 := by omega); subst this; exact HKs.out), by rw [← HLs.out, HFB.out]; exact HO6⟩, by simp [intOf]⟩
      · skip
        have g0 : wr.cell? ⟨bg, 3, none⟩ = some (.int .u64 (a3 : Int)) := HTr.out.cg 3
        clear HW0 HW1 HW2 HW4
        go_upto_region 5 with fail
        clear g0
        go_cut [7, 8] (fun s7 s8 wx => s7 = .int .i64 1 ∧ s8 = .int .i64 12 ∧ Hid (Below wr.heap.size wr wx))
        case first =>
          go_region
          all_goals (go_wp2_with fail; go_meet)
          all_goals exact ⟨rfl, rfl, Lib.hid (by first | exact (below_alloc2 _ _ _).1 | exact (below_alloc2 _ _ _).2)⟩
        case rest =>
          obtain ⟨rfl, rfl, HBc⟩ := hcut
          have HT6 := Lib.hid (HTr.out.keep HBc.out)
          have HO6 := Lib.hid (HO.out.keep HBc.out)
          clear HBc HO HTr
          go_wp2_with fail
          refine (HW3.out _).mono ?_
          rintro e w5 ⟨rfl, hb5⟩
          have HO5 := Lib.hid (HO6.out.keep hb5)
          have HB5 := Lib.hid (HT6.out.keep hb5).below
          clear hb5 HT6 HO6 
          cases hk : K 3 with
          | none =>
            have hVn : V = .tuple #[.string ⟨#[]⟩, .int .i64 5] := by
              rw [← HV.out]
              unfold printV
              rw [if_neg (by intro h; have := List.all_eq_true.1 h 3 (by decide); rw [hk] at this; cases this)]
            have HVn := Lib.hid hVn
            clear hVn
            unfold fieldV
            dsimp only
            go_wp2_with fail
            go_ret2
            exact ⟨by rw [HVn.out]; rfl, HB5.out⟩
          | some l =>
            obtain ⟨tx, htx⟩ : ∃ tx : ByteArray, (⟨(fieldT l).toArray⟩ : ByteArray) = tx := ⟨_, rfl⟩
            have hfb : fieldB K 3 = tx := by rw [← htx]; unfold fieldB; rw [hk]; rfl
            have HFB := Lib.hid hfb
            have hKs : (K 3).isSome = true := by rw [hk]; rfl
            have HKs := Lib.hid hKs
            unfold fieldV
            dsimp only
            rw [htx]
            clear hfb hKs hk htx
            go_upto_region 10 with fail
            iterate 10 (first | go_values | go_skip | go_guarded | go_step | go_upon | go_back)
            refine wpList_append_own _ rfl _ _ 63 rfl w3.heap.size 9 i0 (.string ⟨#[]⟩) 1 16 Tryz.underlying63 hi hz0 hz1 hz2 rfl (by decide) v LL.length _ rfl (HO5.out.alloc _).own _ 1 1 [.string tx] rfl rfl (World.news_of_block (heap_alloc_new _ _)) (fun z hz => by simp at hz; subst hz; rfl) HM2.out.1 HM2.out.2 (Nat.le_trans HO5.out.below.size (by simp)) ?_
            intro v6 w6 hown6 hg6 _
            have HO6 := Lib.hid (OT.app (HO5.out.alloc _) hown6 hg6)
            clear hown6 hg6
            go_wp2_with fail
            exact ⟨⟨v6, 4, rfl, by go_num, by omega, Lib.hid (fun j hj => by rcases Nat.lt_or_ge j 3 with h | h; exact HS.out j h; (have : j = 3 := by omega); subst this; exact HKs.out), by rw [← HLs.out, HFB.out]; exact HO6⟩, by simp [intOf]⟩
      · skip
        have g0 : wr.cell? ⟨bg, 4, none⟩ = some (.int .u64 (a4 : Int)) := HTr.out.cg 4
        clear HW0 HW1 HW2 HW3
        go_upto_region 5 with fail
        clear g0
        go_cut [7, 8] (fun s7 s8 wx => s7 = .int .i64 0 ∧ s8 = .int .i64 6 ∧ Hid (Below wr.heap.size wr wx))
        case first =>
          go_region
          all_goals (go_wp2_with fail; go_meet)
          all_goals exact ⟨rfl, rfl, Lib.hid (by first | exact (below_alloc2 _ _ _).1 | exact (below_alloc2 _ _ _).2)⟩
        case rest =>
          obtain ⟨rfl, rfl, HBc⟩ := hcut
          have HT6 := Lib.hid (HTr.out.keep HBc.out)
          have HO6 := Lib.hid (HO.out.keep HBc.out)
          clear HBc HO HTr
          have x4 : wc.cell? ⟨w.heap.size, 6, none⟩ = some (.bool true) := HT6.out.cx 6
          go_wp2_with fail
          refine (HW4.out _).mono ?_
          rintro e w5 ⟨rfl, hb5⟩
          have HO5 := Lib.hid (HO6.out.keep hb5)
          have HB5 := Lib.hid (HT6.out.keep hb5).below
          clear hb5 HT6 HO6 x4
          cases hk : K 4 with
          | none =>
            have hVn : V = .tuple #[.string ⟨#[]⟩, .int .i64 5] := by
              rw [← HV.out]
              unfold printV
              rw [if_neg (by intro h; have := List.all_eq_true.1 h 4 (by decide); rw [hk] at this; cases this)]
            have HVn := Lib.hid hVn
            clear hVn
            unfold fieldV
            dsimp only
            go_wp2_with fail
            go_ret2
            exact ⟨by rw [HVn.out]; rfl, HB5.out⟩
          | some l =>
            obtain ⟨tx, htx⟩ : ∃ tx : ByteArray, (⟨(fieldT l).toArray⟩ : ByteArray) = tx := ⟨_, rfl⟩
            have hfb : fieldB K 4 = tx := by rw [← htx]; unfold fieldB; rw [hk]; rfl
            have HFB := Lib.hid hfb
            have hKs : (K 4).isSome = true := by rw [hk]; rfl
            have HKs := Lib.hid hKs
            unfold fieldV
            dsimp only
            rw [htx]
            clear hfb hKs hk htx
            go_upto_region 10 with fail
            iterate 10 (first | go_values | go_skip | go_guarded | go_step | go_upon | go_back)
            refine wpList_append_own _ rfl _ _ 63 rfl w3.heap.size 9 i0 (.string ⟨#[]⟩) 1 16 Tryz.underlying63 hi hz0 hz1 hz2 rfl (by decide) v LL.length _ rfl (HO5.out.alloc _).own _ 1 1 [.string tx] rfl rfl (World.news_of_block (heap_alloc_new _ _)) (fun z hz => by simp at hz; subst hz; rfl) HM2.out.1 HM2.out.2 (Nat.le_trans HO5.out.below.size (by simp)) ?_
            intro v6 w6 hown6 hg6 _
            have HO6 := Lib.hid (OT.app (HO5.out.alloc _) hown6 hg6)
            clear hown6 hg6
            go_wp2_with fail
            exact ⟨⟨v6, 5, rfl, by go_num, by omega, Lib.hid (fun j hj => by rcases Nat.lt_or_ge j 4 with h | h; exact HS.out j h; (have : j = 4 := by omega); subst this; exact HKs.out), by rw [← HLs.out, HFB.out]; exact HO6⟩, by simp [intOf]⟩
      · skip
        have g0 : wr.cell? ⟨bg, 4, none⟩ = some (.int .u64 (a4 : Int)) := HTr.out.cg 4
        clear HW0 HW1 HW2 HW3
        go_upto_region 5 with fail
        clear g0
        go_cut [7, 8] (fun s7 s8 wx => s7 = .int .i64 0 ∧ s8 = .int .i64 6 ∧ Hid (Below wr.heap.size wr wx))
        case first =>
          go_region
          all_goals (go_wp2_with fail; go_meet)
          all_goals exact ⟨rfl, rfl, Lib.hid (by first | exact (below_alloc2 _ _ _).1 | exact (below_alloc2 _ _ _).2)⟩
        case rest =>
          obtain ⟨rfl, rfl, HBc⟩ := hcut
          have HT6 := Lib.hid (HTr.out.keep HBc.out)
          have HO6 := Lib.hid (HO.out.keep HBc.out)
          clear HBc HO HTr
          have x4 : wc.cell? ⟨w.heap.size, 6, none⟩ = some (.bool false) := HT6.out.cx 6
          go_wp2_with fail
          refine (HW4.out _).mono ?_
          rintro e w5 ⟨rfl, hb5⟩
          have HO5 := Lib.hid (HO6.out.keep hb5)
          have HB5 := Lib.hid (HT6.out.keep hb5).below
          clear hb5 HT6 HO6 x4
          cases hk : K 4 with
          | none =>
            have hVn : V = .tuple #[.string ⟨#[]⟩, .int .i64 5] := by
              rw [← HV.out]
              unfold printV
              rw [if_neg (by intro h; have := List.all_eq_true.1 h 4 (by decide); rw [hk] at this; cases this)]
            have HVn := Lib.hid hVn
            clear hVn
            unfold fieldV
            dsimp only
            go_wp2_with fail
            go_ret2
            exact ⟨by rw [HVn.out]; rfl, HB5.out⟩
          | some l =>
            obtain ⟨tx, htx⟩ : ∃ tx : ByteArray, (⟨(fieldT l).toArray⟩ : ByteArray) = tx := ⟨_, rfl⟩
            have hfb : fieldB K 4 = tx := by rw [← htx]; unfold fieldB; rw [hk]; rfl
            have HFB := Lib.hid hfb
            have hKs : (K 4).isSome = true := by rw [hk]; rfl
            have HKs := Lib.hid hKs
            unfold fieldV
            dsimp only
            rw [htx]
            clear hfb hKs hk htx
            go_upto_region 10 with fail
            iterate 10 (first | go_values | go_skip | go_guarded | go_step | go_upon | go_back)
            refine wpList_append_own _ rfl _ _ 63 rfl w3.heap.size 9 i0 (.string ⟨#[]⟩) 1 16 Tryz.underlying63 hi hz0 hz1 hz2 rfl (by decide) v LL.length _ rfl (HO5.out.alloc _).own _ 1 1 [.string tx] rfl rfl (World.news_of_block (heap_alloc_new _ _)) (fun z hz => by simp at hz; subst hz; rfl) HM2.out.1 HM2.out.2 (Nat.le_trans HO5.out.below.size (by simp)) ?_
            intro v6 w6 hown6 hg6 _
            have HO6 := Lib.hid (OT.app (HO5.out.alloc _) hown6 hg6)
            clear hown6 hg6
            go_wp2_with fail
            exact ⟨⟨v6, 5, rfl, by go_num, by omega, Lib.hid (fun j hj => by rcases Nat.lt_or_ge j 4 with h | h; exact HS.out j h; (have : j = 4 := by omega); subst this; exact HKs.out), by rw [← HLs.out, HFB.out]; exact HO6⟩, by simp [intOf]⟩
    · have hi6 : i = 5 := by omega
      subst hi6
      obtain ⟨TX, hTX⟩ : ∃ TX : ByteArray, (⟨(Lib.join (((List.range 5).map (fieldB K)).map (·.data.toList)) [32]).toArray⟩ : ByteArray) = TX := ⟨_, rfl⟩
      have hVs : V = .tuple #[.string TX, .int .i64 0] := by
        rw [← HV.out, ← hTX]
        unfold printV
        rw [if_pos (List.all_eq_true.2 (fun j hj => HS.out j (List.mem_range.1 hj)))]
      have HVs := Lib.hid hVs
      have hJ : Calls Tryz.prog 24 #[v, .string ⟨#[32]⟩] wr fun e w' => e = .returned (.string TX) ∧ Below wr.heap.size wr w' := by
        rw [← hTX]
        exact join_any w3 wr v ((List.range 5).map (fieldB K)) ⟨#[32]⟩ HO.out (by simp) (fun x hx => by obtain ⟨j, hj, rfl⟩ := List.mem_map.1 hx; exact HSZ.out j (List.mem_range.1 hj)) (by decide)
      have hBk := HBk.out
      rw [hTX] at hBk
      have HJ := Lib.hid hJ
      have HBk2 := Lib.hid (fun W hW => hBk W HS.out hW)
      clear hVs hTX hJ hBk HBk HX HO HW0 HW1 HW2 HW3 HW4
      go_wp2_with fail
      refine HJ.out.mono ?_
      rintro e w7 ⟨rfl, hb7⟩
      have HT7 := Lib.hid (HTr.out.keep hb7)
      clear hb7 HTr HJ
      go_wp2_with fail
      refine (HBk2.out _ (HM.out.keep HT7.out.below)).mono ?_
      rintro e w8 ⟨rfl, hb8⟩
      have HT8 := Lib.hid (HT7.out.keep hb8)
      clear hb8 HT7
      have cx := HT8.out.cx
      have lx := HT8.out.lt.1
      have HB9 := Lib.hid (HT8.out.below.alloc HT8.out.below.size (.cells #[.int .u64 (a0 : Int), .int .u64 (a1 : Int), .int .u64 (a2 : Int), .int .u64 (a3 : Int), .int .u64 (a4 : Int), .bool b5, .bool b6] 24))
      go_wp2_with fail
      go_ret2
      exact ⟨by rw [HVs.out]; rfl, HB9.out⟩

end Go.Proofs.YtlhaidibcocooaaGreatDoor
