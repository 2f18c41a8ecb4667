/- Times, the program: PrintTimes. (Begun; see NOTES.md.) -/
import Derived.Test.YtlhaidibcocooaaGreatDoorTimesD
namespace Go.Proofs.YtlhaidibcocooaaGreatDoor
open Go.RowKit

def nmMonths : ByteArray := ⟨#[106, 97, 110, 32, 102, 101, 98, 32, 109, 97, 114, 32, 97, 112, 114, 32, 109, 97, 121, 32, 106, 117, 110, 32, 106, 117, 108, 32, 97, 117, 103, 32, 115, 101, 112, 32, 111, 99, 116, 32, 110, 111, 118, 32, 100, 101, 99]⟩
def nmDays : ByteArray := ⟨#[115, 117, 110, 32, 109, 111, 110, 32, 116, 117, 101, 32, 119, 101, 100, 32, 116, 104, 117, 32, 102, 114, 105, 32, 115, 97, 116]⟩
def fieldsA : Array Value := #[.int .i64 0, .int .i64 59, .string ⟨#[]⟩, .int .i64 0, .int .i64 23, .string ⟨#[]⟩, .int .i64 1, .int .i64 31, .string ⟨#[]⟩, .int .i64 1, .int .i64 12, .string nmMonths, .int .i64 0, .int .i64 7, .string nmDays]
set_option maxRecDepth 100000 in
set_option maxHeartbeats 800000 in
theorem timeFields_any (w : World) : Calls Tryz.prog 22 #[] w fun e w' => e = .returned (.agg fieldsA) ∧ Below w.heap.size w w' := by
  have c0 := box_cell w fieldsA 61
  have HB := Lib.hid ((Below.refl w.heap.size w).alloc (Nat.le_refl _) (.cells fieldsA 61))
  unfold fieldsA nmMonths nmDays at c0
  go_enter Tryz.func22, Tryz.ntmps22
  go_wp2_with fail
  refine bodyPost_ret (v := .agg fieldsA) (by simp [results, Tryz.results22, go_sem, c0, fieldsA, nmMonths, nmDays]) rfl ⟨rfl, HB.out⟩

/-- the fields of times, as they are shown -/
def fieldK (a0 a1 a2 a3 a4 : Nat) (b5 b6 : Bool) : Nat → Option (List PK)
  | 0 => shownK 0 59 false a0 false false
  | 1 => shownK 0 23 false a1 false false
  | 2 => shownK 1 31 false a2 true b5
  | 3 => shownK 1 12 false a3 false false
  | _ => shownK 0 6 true a4 true b6
def fieldB (K : Nat → Option (List PK)) (j : Nat) : ByteArray := ⟨(fieldT ((K j).getD [])).toArray⟩
def printV (K : Nat → Option (List PK)) : Value := if ((List.range 5).all fun j => (K j).isSome) = true then .tuple #[.string ⟨(Lib.join (((List.range 5).map (fieldB K)).map (·.data.toList)) [32]).toArray⟩, .int .i64 0] else .tuple #[.string ⟨#[]⟩, .int .i64 5]
theorem OT.keep {w0 w w' : World} {v : Value} {L : List ByteArray} (h : OT w0 w v L) (hb : Below w.heap.size w w') : OT w0 w' v L := by
  refine ⟨⟨h.own.1, ?_⟩, h.below.trans (hb.mono h.below.size)⟩
  rcases h.own.2 with hn | ⟨g, cap, cur, rfl, h1, h2, h3⟩
  · exact .inl hn
  · exact .inr ⟨g, cap, cur, rfl, h1, (hb.block g (Array.getElem?_eq_some_iff.1 h2).1).trans h2, h3⟩

/-- the three blocks that the walk reads -/
structure T3 (w wx : World) (bf bg : Nat) (xs fs gs : Array Value) : Prop where
  below : Below w.heap.size w wx
  cx : ∀ j, wx.cell? ⟨w.heap.size, j, none⟩ = xs[j]?
  cf : ∀ j, wx.cell? ⟨bf, j, none⟩ = fs[j]?
  cg : ∀ j, wx.cell? ⟨bg, j, none⟩ = gs[j]?
  lt : w.heap.size < wx.heap.size ∧ bf < wx.heap.size ∧ bg < wx.heap.size
theorem T3.keep {w wx wy : World} {bf bg : Nat} {xs fs gs : Array Value} (h : T3 w wx bf bg xs fs gs) (hb : Below wx.heap.size wx wy) : T3 w wy bf bg xs fs gs :=
  ⟨h.below.trans (hb.mono h.below.size), fun j => (hb.cell (p := ⟨w.heap.size, j, none⟩) h.lt.1).trans (h.cx j), fun j => (hb.cell (p := ⟨bf, j, none⟩) h.lt.2.1).trans (h.cf j), fun j => (hb.cell (p := ⟨bg, j, none⟩) h.lt.2.2).trans (h.cg j), Nat.lt_of_lt_of_le h.lt.1 hb.size, Nat.lt_of_lt_of_le h.lt.2.1 hb.size, Nat.lt_of_lt_of_le h.lt.2.2 hb.size⟩
theorem T3.start {w w2 : World} {xs fs gs : Array Value} {T U : TypeId} (h : BX w w2 xs) : T3 w ((w2.alloc (.cells fs T)).alloc (.cells gs U)) w2.heap.size (w2.heap.size + 1) xs fs gs := by
  have b1 := (Below.refl w2.heap.size w2).alloc (Nat.le_refl _) (.cells fs T)
  have b2 := (Below.refl (w2.alloc (.cells fs T)).heap.size (w2.alloc (.cells fs T))).alloc (Nat.le_refl _) (.cells gs U)
  have h1 := h.keep b1
  have h2 := h1.keep b2
  refine ⟨h2.below, h2.cells, fun j => (b2.cell (p := ⟨w2.heap.size, j, none⟩) (by simp)).trans (box_cell w2 fs T j), fun j => ?_, h2.lt, by simp; omega, by simp⟩
  have := box_cell (w2.alloc (.cells fs T)) gs U j
  rw [show (w2.alloc (.cells fs T)).heap.size = w2.heap.size + 1 by simp] at this
  exact this
/-- what a field returns -/
def fieldV (k : Option (List PK)) : Value := match k with
  | none => .tuple #[.string ⟨#[]⟩, .bool false]
  | some l => .tuple #[.string ⟨(fieldT l).toArray⟩, .bool true]

set_option maxRecDepth 100000 in
set_option maxHeartbeats 16000000 in
theorem print_any (a0 a1 a2 a3 a4 : Nat) (b5 b6 : Bool) (w : World) (h0 : a0 < 18446744073709551616) (h1 : a1 < 18446744073709551616) (h2 : a2 < 18446744073709551616) (h3 : a3 < 18446744073709551616) (h4 : a4 < 18446744073709551616) (hsz : ∀ j, j < 5 → (fieldB (fieldK a0 a1 a2 a3 a4 b5 b6) j).size ≤ 100000) :
    Calls Tryz.prog 8 #[.agg #[.int .u64 (a0 : Int), .int .u64 (a1 : Int), .int .u64 (a2 : Int), .int .u64 (a3 : Int), .int .u64 (a4 : Int), .bool b5, .bool b6]] w fun e w' => e = .returned (printV (fieldK a0 a1 a2 a3 a4 b5 b6)) ∧ Below w.heap.size w w' := by
  obtain ⟨K, hK⟩ : ∃ K, fieldK a0 a1 a2 a3 a4 b5 b6 = K := ⟨_, rfl⟩
  rw [hK] at hsz
  rw [hK]
  have HW0 : Hid (∀ W, Calls Tryz.prog 23 #[.agg #[.int .i64 0, .int .i64 59, .string ⟨#[]⟩], .int .u64 (a0 : Int), .bool false, .bool false] W fun e w' => e = .returned (fieldV (K 0)) ∧ Below W.heap.size W w') := Lib.hid (by
    intro W
    rw [← hK]
    exact written_any 0 59 false ⟨#[]⟩ a0 false false W h0 (by decide) (by decide) (by decide) (by decide) (by first | (intro h; rfl) | (intro h; cases h)))
  have HW1 : Hid (∀ W, Calls Tryz.prog 23 #[.agg #[.int .i64 0, .int .i64 23, .string ⟨#[]⟩], .int .u64 (a1 : Int), .bool false, .bool false] W fun e w' => e = .returned (fieldV (K 1)) ∧ Below W.heap.size W w') := Lib.hid (by
    intro W
    rw [← hK]
    exact written_any 0 23 false ⟨#[]⟩ a1 false false W h1 (by decide) (by decide) (by decide) (by decide) (by first | (intro h; rfl) | (intro h; cases h)))
  have HW2 : Hid (∀ W, Calls Tryz.prog 23 #[.agg #[.int .i64 1, .int .i64 31, .string ⟨#[]⟩], .int .u64 (a2 : Int), .bool true, .bool b5] W fun e w' => e = .returned (fieldV (K 2)) ∧ Below W.heap.size W w') := Lib.hid (by
    intro W
    rw [← hK]
    exact written_any 1 31 false ⟨#[]⟩ a2 true b5 W h2 (by decide) (by decide) (by decide) (by decide) (by first | (intro h; rfl) | (intro h; cases h)))
  have HW3 : Hid (∀ W, Calls Tryz.prog 23 #[.agg #[.int .i64 1, .int .i64 12, .string nmMonths], .int .u64 (a3 : Int), .bool false, .bool false] W fun e w' => e = .returned (fieldV (K 3)) ∧ Below W.heap.size W w') := Lib.hid (by
    intro W
    rw [← hK]
    exact written_any 1 12 false nmMonths a3 false false W h3 (by decide) (by decide) (by decide) (by decide) (by first | (intro h; rfl) | (intro h; cases h)))
  have HW4 : Hid (∀ W, Calls Tryz.prog 23 #[.agg #[.int .i64 0, .int .i64 7, .string nmDays], .int .u64 (a4 : Int), .bool true, .bool b6] W fun e w' => e = .returned (fieldV (K 4)) ∧ Below W.heap.size W w') := Lib.hid (by
    intro W
    rw [← hK]
    exact written_any 0 6 true nmDays a4 true b6 W h4 (by decide) (by decide) (by decide) (by decide) (by first | (intro h; rfl) | (intro h; cases h)))
  have HSZ := Lib.hid hsz
  have HX := Lib.hid (BX.start w #[.int .u64 (a0 : Int), .int .u64 (a1 : Int), .int .u64 (a2 : Int), .int .u64 (a3 : Int), .int .u64 (a4 : Int), .bool b5, .bool b6] 24)
  obtain ⟨V, hV⟩ : ∃ V, printV K = V := ⟨_, rfl⟩
  rw [hV]
  have HV := Lib.hid hV
  clear hV hK hsz h0 h1 h2 h3 h4
  obtain ⟨i0, hi, hz0, hz1, hz2⟩ := info_parts info_text
  go_enter Tryz.func8, Tryz.ntmps8
  go_wp2_with fail
  generalize w.alloc (.cells #[.int .u64 (a0 : Int), .int .u64 (a1 : Int), .int .u64 (a2 : Int), .int .u64 (a3 : Int), .int .u64 (a4 : Int), .bool b5, .bool b6] 24) = w1 at *
  refine (timeFields_any w1).mono ?_
  rintro e w2 ⟨rfl, hb2⟩
  have HX2 := Lib.hid (HX.out.keep hb2)
  have HT3 := Lib.hid (T3.start (fs := fieldsA) (gs := #[.int .u64 (a0 : Int), .int .u64 (a1 : Int), .int .u64 (a2 : Int), .int .u64 (a3 : Int), .int .u64 (a4 : Int)]) (T := 61) (U := 22) HX2.out)
  obtain ⟨cx, lx⟩ : (∀ j, w2.cell? ⟨w.heap.size, j, none⟩ = (#[Value.int .u64 (a0 : Int), .int .u64 (a1 : Int), .int .u64 (a2 : Int), .int .u64 (a3 : Int), .int .u64 (a4 : Int), .bool b5, .bool b6] : Array Value)[j]?) ∧ w.heap.size < w2.heap.size := ⟨HX2.out.cells, HX2.out.lt⟩
  clear hb2 HX
  unfold fieldsA at *
  go_wp2_with fail
  generalize (w2.alloc (.cells #[.int .i64 0, .int .i64 59, .string ⟨#[]⟩, .int .i64 0, .int .i64 23, .string ⟨#[]⟩, .int .i64 1, .int .i64 31, .string ⟨#[]⟩, .int .i64 1, .int .i64 12, .string nmMonths, .int .i64 0, .int .i64 7, .string nmDays] 61)).alloc (.cells #[.int .u64 (a0 : Int), .int .u64 (a1 : Int), .int .u64 (a2 : Int), .int .u64 (a3 : Int), .int .u64 (a4 : Int)] 22) = w3 at *
  generalize w2.heap.size + 1 = bg at *
  generalize w2.heap.size = bf at *
  clear cx lx HX2
  generalize (Value.agg #[.int .i64 0, .int .i64 59, .string ⟨#[]⟩, .int .i64 0, .int .i64 23, .string ⟨#[]⟩, .int .i64 1, .int .i64 31, .string ⟨#[]⟩, .int .i64 1, .int .i64 12, .string nmMonths, .int .i64 0, .int .i64 7, .string nmDays]) = fv
  go_loopw [5, 24] (fun s5 s24 wr => ∃ (v : Value) (i : Nat), v = s5 ∧ s24 = .int .i64 (i : Int) ∧ i ≤ 5 ∧ Hid (∀ j, j < i → (K j).isSome = true) ∧ Hid (OT w3 wr v ((List.range i).map (fieldB K)))) (fun _ s24 _ => 5 - (intOf s24).toNat)
  case atStart => exact ⟨_, 0, rfl, rfl, by decide, fun j hj => absurd hj (Nat.not_lt_zero _), ⟨⟨rfl, .inl ⟨rfl, rfl⟩⟩, Below.refl _ _⟩⟩
  case round =>
    obtain ⟨v, i, rfl, rfl, hi5, HS, HO⟩ := hrel
    have HTr := Lib.hid (HT3.out.keep HO.out.below)
    by_cases hlt : i < 5
    · obtain ⟨LL, hLL⟩ : ∃ LL, (List.range i).map (fieldB K) = LL := ⟨_, rfl⟩
      have hLn : LL.length ≤ 5 := by rw [← hLL]; simp; omega
      have hLs : LL ++ [fieldB K i] = (List.range (i + 1)).map (fieldB K) := by rw [← hLL, List.range_succ, List.map_append]; rfl
      have HLs := Lib.hid hLs
      rw [hLL] at HO
      have HM := Lib.hid (show LL.length + 1 ≤ maxLen ∧ (LL.length + 1) * 16 ≤ 140737488355328 from ⟨by unfold maxLen; omega, by omega⟩)
      clear hLL hLs HT3
      obtain ⟨lx, lf, lg⟩ := HTr.out.lt
      have cx := HTr.out.cx
      have cf := HTr.out.cf
      have cg := HTr.out.cg
      have hcase : i = 0 ∨ i = 1 ∨ (i = 2 ∧ b5 = true) ∨ (i = 2 ∧ b5 = false) ∨ i = 3 ∨ (i = 4 ∧ b6 = true) ∨ (i = 4 ∧ b6 = false) := by
        cases b5 <;> cases b6 <;> simp <;> omega
      rcases hcase with rfl | rfl | ⟨rfl, rfl⟩ | ⟨rfl, rfl⟩ | rfl | ⟨rfl, rfl⟩ | ⟨rfl, rfl⟩
      · skip
        have f0 : wr.cell? ⟨bf, 0, none⟩ = some (.int .i64 0) := cf 0
        have f1 : wr.cell? ⟨bf, 1, none⟩ = some (.int .i64 59) := cf 1
        have f2 : wr.cell? ⟨bf, 2, none⟩ = some (.string ⟨#[]⟩) := cf 2
        have g0 : wr.cell? ⟨bg, 0, none⟩ = some (.int .u64 (a0 : Int)) := cg 0
        clear cx cf cg HW1 HW2 HW3 HW4
        go_wp2_with fail
        refine (HW0.out _).mono ?_
        rintro e w5 ⟨rfl, hb5⟩
        have HO5 := Lib.hid (HO.out.keep hb5)
        have HB5 := Lib.hid (HTr.out.keep hb5).below
        clear hb5 f0 f1 f2 g0 lx lf lg HTr
        cases hk : K 0 with
        | none =>
          have hVn : V = .tuple #[.string ⟨#[]⟩, .int .i64 5] := by
            rw [← HV.out]
            unfold printV
            rw [if_neg (by intro h; have := List.all_eq_true.1 h 0 (by decide); rw [hk] at this; cases this)]
          have HVn := Lib.hid hVn
          clear hVn
          unfold fieldV
          dsimp only
          go_wp2_with fail
          go_ret2
          exact ⟨by rw [HVn.out]; rfl, HB5.out⟩
        | some l =>
          obtain ⟨tx, htx⟩ : ∃ tx : ByteArray, (⟨(fieldT l).toArray⟩ : ByteArray) = tx := ⟨_, rfl⟩
          have hfb : fieldB K 0 = tx := by rw [← htx]; unfold fieldB; rw [hk]; rfl
          have HFB := Lib.hid hfb
          have hKs : (K 0).isSome = true := by rw [hk]; rfl
          have HKs := Lib.hid hKs
          unfold fieldV
          dsimp only
          rw [htx]
          clear hfb hKs hk htx
          go_upto_region 10 with fail
          iterate 10 (first | go_values | go_skip | go_guarded | go_step | go_upon | go_back)
          refine wpList_append_own _ rfl _ _ 63 rfl w3.heap.size 9 i0 (.string ⟨#[]⟩) 1 16 Tryz.underlying63 hi hz0 hz1 hz2 rfl (by decide) v LL.length _ rfl (HO5.out.alloc _).own _ 1 1 [.string tx] rfl rfl (World.news_of_block (heap_alloc_new _ _)) (fun z hz => by simp at hz; subst hz; rfl) HM.out.1 HM.out.2 (Nat.le_trans HO5.out.below.size (by simp)) ?_
          intro v6 w6 hown6 hg6 _
          have HO6 := Lib.hid (OT.app (HO5.out.alloc _) hown6 hg6)
          clear hown6 hg6
          go_wp2_with fail
          exact ⟨⟨v6, 1, rfl, by go_num, by omega, Lib.hid (fun j hj => by rcases Nat.lt_or_ge j 0 with h | h; exact HS.out j h; (have : j = 0 := by omega); subst this; exact HKs.out), by rw [← HLs.out, HFB.out]; exact HO6⟩, by simp [intOf]⟩
      · skip
        have f0 : wr.cell? ⟨bf, 3, none⟩ = some (.int .i64 0) := cf 3
        have f1 : wr.cell? ⟨bf, 4, none⟩ = some (.int .i64 23) := cf 4
        have f2 : wr.cell? ⟨bf, 5, none⟩ = some (.string ⟨#[]⟩) := cf 5
        have g0 : wr.cell? ⟨bg, 1, none⟩ = some (.int .u64 (a1 : Int)) := cg 1
        clear cx cf cg HW0 HW2 HW3 HW4
        go_wp2_with fail
        refine (HW1.out _).mono ?_
        rintro e w5 ⟨rfl, hb5⟩
        have HO5 := Lib.hid (HO.out.keep hb5)
        have HB5 := Lib.hid (HTr.out.keep hb5).below
        clear hb5 f0 f1 f2 g0 lx lf lg HTr
        cases hk : K 1 with
        | none =>
          have hVn : V = .tuple #[.string ⟨#[]⟩, .int .i64 5] := by
            rw [← HV.out]
            unfold printV
            rw [if_neg (by intro h; have := List.all_eq_true.1 h 1 (by decide); rw [hk] at this; cases this)]
          have HVn := Lib.hid hVn
          clear hVn
          unfold fieldV
          dsimp only
          go_wp2_with fail
          go_ret2
          exact ⟨by rw [HVn.out]; rfl, HB5.out⟩
        | some l =>
          obtain ⟨tx, htx⟩ : ∃ tx : ByteArray, (⟨(fieldT l).toArray⟩ : ByteArray) = tx := ⟨_, rfl⟩
          have hfb : fieldB K 1 = tx := by rw [← htx]; unfold fieldB; rw [hk]; rfl
          have HFB := Lib.hid hfb
          have hKs : (K 1).isSome = true := by rw [hk]; rfl
          have HKs := Lib.hid hKs
          unfold fieldV
          dsimp only
          rw [htx]
          clear hfb hKs hk htx
          go_upto_region 10 with fail
          iterate 10 (first | go_values | go_skip | go_guarded | go_step | go_upon | go_back)
          refine wpList_append_own _ rfl _ _ 63 rfl w3.heap.size 9 i0 (.string ⟨#[]⟩) 1 16 Tryz.underlying63 hi hz0 hz1 hz2 rfl (by decide) v LL.length _ rfl (HO5.out.alloc _).own _ 1 1 [.string tx] rfl rfl (World.news_of_block (heap_alloc_new _ _)) (fun z hz => by simp at hz; subst hz; rfl) HM.out.1 HM.out.2 (Nat.le_trans HO5.out.below.size (by simp)) ?_
          intro v6 w6 hown6 hg6 _
          have HO6 := Lib.hid (OT.app (HO5.out.alloc _) hown6 hg6)
          clear hown6 hg6
          go_wp2_with fail
          exact ⟨⟨v6, 2, rfl, by go_num, by omega, Lib.hid (fun j hj => by rcases Nat.lt_or_ge j 1 with h | h; exact HS.out j h; (have : j = 1 := by omega); subst this; exact HKs.out), by rw [← HLs.out, HFB.out]; exact HO6⟩, by simp [intOf]⟩
      · skip
        have f0 : wr.cell? ⟨bf, 6, none⟩ = some (.int .i64 1) := cf 6
        have f1 : wr.cell? ⟨bf, 7, none⟩ = some (.int .i64 31) := cf 7
        have f2 : wr.cell? ⟨bf, 8, none⟩ = some (.string ⟨#[]⟩) := cf 8
        have g0 : wr.cell? ⟨bg, 2, none⟩ = some (.int .u64 (a2 : Int)) := cg 2
        have x5 : wr.cell? ⟨w.heap.size, 5, none⟩ = some (.bool true) := cx 5
        clear cx cf cg HW0 HW1 HW3 HW4
        go_wp2_with fail
        refine (HW2.out _).mono ?_
        rintro e w5 ⟨rfl, hb5⟩
        have HO5 := Lib.hid (HO.out.keep hb5)
        have HB5 := Lib.hid (HTr.out.keep hb5).below
        clear hb5 f0 f1 f2 g0 lx lf lg HTr
        cases hk : K 2 with
        | none =>
          have hVn : V = .tuple #[.string ⟨#[]⟩, .int .i64 5] := by
            rw [← HV.out]
            unfold printV
            rw [if_neg (by intro h; have := List.all_eq_true.1 h 2 (by decide); rw [hk] at this; cases this)]
          have HVn := Lib.hid hVn
          clear hVn
          unfold fieldV
          dsimp only
          go_wp2_with fail
          go_ret2
          exact ⟨by rw [HVn.out]; rfl, HB5.out⟩
        | some l =>
          obtain ⟨tx, htx⟩ : ∃ tx : ByteArray, (⟨(fieldT l).toArray⟩ : ByteArray) = tx := ⟨_, rfl⟩
          have hfb : fieldB K 2 = tx := by rw [← htx]; unfold fieldB; rw [hk]; rfl
          have HFB := Lib.hid hfb
          have hKs : (K 2).isSome = true := by rw [hk]; rfl
          have HKs := Lib.hid hKs
          unfold fieldV
          dsimp only
          rw [htx]
          clear hfb hKs hk htx
          go_upto_region 10 with fail
          iterate 10 (first | go_values | go_skip | go_guarded | go_step | go_upon | go_back)
          refine wpList_append_own _ rfl _ _ 63 rfl w3.heap.size 9 i0 (.string ⟨#[]⟩) 1 16 Tryz.underlying63 hi hz0 hz1 hz2 rfl (by decide) v LL.length _ rfl (HO5.out.alloc _).own _ 1 1 [.string tx] rfl rfl (World.news_of_block (heap_alloc_new _ _)) (fun z hz => by simp at hz; subst hz; rfl) HM.out.1 HM.out.2 (Nat.le_trans HO5.out.below.size (by simp)) ?_
          intro v6 w6 hown6 hg6 _
          have HO6 := Lib.hid (OT.app (HO5.out.alloc _) hown6 hg6)
          clear hown6 hg6
          go_wp2_with fail
          exact ⟨⟨v6, 3, rfl, by go_num, by omega, Lib.hid (fun j hj => by rcases Nat.lt_or_ge j 2 with h | h; exact HS.out j h; (have : j = 2 := by omega); subst this; exact HKs.out), by rw [← HLs.out, HFB.out]; exact HO6⟩, by simp [intOf]⟩
      · skip
        have f0 : wr.cell? ⟨bf, 6, none⟩ = some (.int .i64 1) := cf 6
        have f1 : wr.cell? ⟨bf, 7, none⟩ = some (.int .i64 31) := cf 7
        have f2 : wr.cell? ⟨bf, 8, none⟩ = some (.string ⟨#[]⟩) := cf 8
        have g0 : wr.cell? ⟨bg, 2, none⟩ = some (.int .u64 (a2 : Int)) := cg 2
        have x5 : wr.cell? ⟨w.heap.size, 5, none⟩ = some (.bool false) := cx 5
        clear cx cf cg HW0 HW1 HW3 HW4
        go_wp2_with fail
        refine (HW2.out _).mono ?_
        rintro e w5 ⟨rfl, hb5⟩
        have HO5 := Lib.hid (HO.out.keep hb5)
        have HB5 := Lib.hid (HTr.out.keep hb5).below
        clear hb5 f0 f1 f2 g0 lx lf lg HTr
        cases hk : K 2 with
        | none =>
          have hVn : V = .tuple #[.string ⟨#[]⟩, .int .i64 5] := by
            rw [← HV.out]
            unfold printV
            rw [if_neg (by intro h; have := List.all_eq_true.1 h 2 (by decide); rw [hk] at this; cases this)]
          have HVn := Lib.hid hVn
          clear hVn
          unfold fieldV
          dsimp only
          go_wp2_with fail
          go_ret2
          exact ⟨by rw [HVn.out]; rfl, HB5.out⟩
        | some l =>
          obtain ⟨tx, htx⟩ : ∃ tx : ByteArray, (⟨(fieldT l).toArray⟩ : ByteArray) = tx := ⟨_, rfl⟩
          have hfb : fieldB K 2 = tx := by rw [← htx]; unfold fieldB; rw [hk]; rfl
          have HFB := Lib.hid hfb
          have hKs : (K 2).isSome = true := by rw [hk]; rfl
          have HKs := Lib.hid hKs
          unfold fieldV
          dsimp only
          rw [htx]
          clear hfb hKs hk htx
          go_upto_region 10 with fail
          iterate 10 (first | go_values | go_skip | go_guarded | go_step | go_upon | go_back)
          refine wpList_append_own _ rfl _ _ 63 rfl w3.heap.size 9 i0 (.string ⟨#[]⟩) 1 16 Tryz.underlying63 hi hz0 hz1 hz2 rfl (by decide) v LL.length _ rfl (HO5.out.alloc _).own _ 1 1 [.string tx] rfl rfl (World.news_of_block (heap_alloc_new _ _)) (fun z hz => by simp at hz; subst hz; rfl) HM.out.1 HM.out.2 (Nat.le_trans HO5.out.below.size (by simp)) ?_
          intro v6 w6 hown6 hg6 _
          have HO6 := Lib.hid (OT.app (HO5.out.alloc _) hown6 hg6)
          clear hown6 hg6
          go_wp2_with fail
          exact ⟨⟨v6, 3, rfl, by go_num, by omega, Lib.hid (fun j hj => by rcases Nat.lt_or_ge j 2 with h | h; exact HS.out j h; (have : j = 2 := by omega); subst this; exact HKs.out), by rw [← HLs.out, HFB.out]; exact HO6⟩, by simp [intOf]⟩
      · skip
        have f0 : wr.cell? ⟨bf, 9, none⟩ = some (.int .i64 1) := cf 9
        have f1 : wr.cell? ⟨bf, 10, none⟩ = some (.int .i64 12) := cf 10
        have f2 : wr.cell? ⟨bf, 11, none⟩ = some (.string nmMonths) := cf 11
        have g0 : wr.cell? ⟨bg, 3, none⟩ = some (.int .u64 (a3 : Int)) := cg 3
        clear cx cf cg HW0 HW1 HW2 HW4
        go_wp2_with fail
        refine (HW3.out _).mono ?_
        rintro e w5 ⟨rfl, hb5⟩
        have HO5 := Lib.hid (HO.out.keep hb5)
        have HB5 := Lib.hid (HTr.out.keep hb5).below
        clear hb5 f0 f1 f2 g0 lx lf lg HTr
        cases hk : K 3 with
        | none =>
          have hVn : V = .tuple #[.string ⟨#[]⟩, .int .i64 5] := by
            rw [← HV.out]
            unfold printV
            rw [if_neg (by intro h; have := List.all_eq_true.1 h 3 (by decide); rw [hk] at this; cases this)]
          have HVn := Lib.hid hVn
          clear hVn
          unfold fieldV
          dsimp only
          go_wp2_with fail
          go_ret2
          exact ⟨by rw [HVn.out]; rfl, HB5.out⟩
        | some l =>
          obtain ⟨tx, htx⟩ : ∃ tx : ByteArray, (⟨(fieldT l).toArray⟩ : ByteArray) = tx := ⟨_, rfl⟩
          have hfb : fieldB K 3 = tx := by rw [← htx]; unfold fieldB; rw [hk]; rfl
          have HFB := Lib.hid hfb
          have hKs : (K 3).isSome = true := by rw [hk]; rfl
          have HKs := Lib.hid hKs
          unfold fieldV
          dsimp only
          rw [htx]
          clear hfb hKs hk htx
          go_upto_region 10 with fail
          iterate 10 (first | go_values | go_skip | go_guarded | go_step | go_upon | go_back)
          refine wpList_append_own _ rfl _ _ 63 rfl w3.heap.size 9 i0 (.string ⟨#[]⟩) 1 16 Tryz.underlying63 hi hz0 hz1 hz2 rfl (by decide) v LL.length _ rfl (HO5.out.alloc _).own _ 1 1 [.string tx] rfl rfl (World.news_of_block (heap_alloc_new _ _)) (fun z hz => by simp at hz; subst hz; rfl) HM.out.1 HM.out.2 (Nat.le_trans HO5.out.below.size (by simp)) ?_
          intro v6 w6 hown6 hg6 _
          have HO6 := Lib.hid (OT.app (HO5.out.alloc _) hown6 hg6)
          clear hown6 hg6
          go_wp2_with fail
          exact ⟨⟨v6, 4, rfl, by go_num, by omega, Lib.hid (fun j hj => by rcases Nat.lt_or_ge j 3 with h | h; exact HS.out j h; (have : j = 3 := by omega); subst this; exact HKs.out), by rw [← HLs.out, HFB.out]; exact HO6⟩, by simp [intOf]⟩
      · skip
        have f0 : wr.cell? ⟨bf, 12, none⟩ = some (.int .i64 0) := cf 12
        have f1 : wr.cell? ⟨bf, 13, none⟩ = some (.int .i64 7) := cf 13
        have f2 : wr.cell? ⟨bf, 14, none⟩ = some (.string nmDays) := cf 14
        have g0 : wr.cell? ⟨bg, 4, none⟩ = some (.int .u64 (a4 : Int)) := cg 4
        have x6 : wr.cell? ⟨w.heap.size, 6, none⟩ = some (.bool true) := cx 6
        clear cx cf cg HW0 HW1 HW2 HW3
        go_wp2_with fail
        refine (HW4.out _).mono ?_
        rintro e w5 ⟨rfl, hb5⟩
        have HO5 := Lib.hid (HO.out.keep hb5)
        have HB5 := Lib.hid (HTr.out.keep hb5).below
        clear hb5 f0 f1 f2 g0 lx lf lg HTr
        cases hk : K 4 with
        | none =>
          have hVn : V = .tuple #[.string ⟨#[]⟩, .int .i64 5] := by
            rw [← HV.out]
            unfold printV
            rw [if_neg (by intro h; have := List.all_eq_true.1 h 4 (by decide); rw [hk] at this; cases this)]
          have HVn := Lib.hid hVn
          clear hVn
          unfold fieldV
          dsimp only
          go_wp2_with fail
          go_ret2
          exact ⟨by rw [HVn.out]; rfl, HB5.out⟩
        | some l =>
          obtain ⟨tx, htx⟩ : ∃ tx : ByteArray, (⟨(fieldT l).toArray⟩ : ByteArray) = tx := ⟨_, rfl⟩
          have hfb : fieldB K 4 = tx := by rw [← htx]; unfold fieldB; rw [hk]; rfl
          have HFB := Lib.hid hfb
          have hKs : (K 4).isSome = true := by rw [hk]; rfl
          have HKs := Lib.hid hKs
          unfold fieldV
          dsimp only
          rw [htx]
          clear hfb hKs hk htx
          go_upto_region 10 with fail
          iterate 10 (first | go_values | go_skip | go_guarded | go_step | go_upon | go_back)
          refine wpList_append_own _ rfl _ _ 63 rfl w3.heap.size 9 i0 (.string ⟨#[]⟩) 1 16 Tryz.underlying63 hi hz0 hz1 hz2 rfl (by decide) v LL.length _ rfl (HO5.out.alloc _).own _ 1 1 [.string tx] rfl rfl (World.news_of_block (heap_alloc_new _ _)) (fun z hz => by simp at hz; subst hz; rfl) HM.out.1 HM.out.2 (Nat.le_trans HO5.out.below.size (by simp)) ?_
          intro v6 w6 hown6 hg6 _
          have HO6 := Lib.hid (OT.app (HO5.out.alloc _) hown6 hg6)
          clear hown6 hg6
          go_wp2_with fail
          exact ⟨⟨v6, 5, rfl, by go_num, by omega, Lib.hid (fun j hj => by rcases Nat.lt_or_ge j 4 with h | h; exact HS.out j h; (have : j = 4 := by omega); subst this; exact HKs.out), by rw [← HLs.out, HFB.out]; exact HO6⟩, by simp [intOf]⟩
      · skip
        have f0 : wr.cell? ⟨bf, 12, none⟩ = some (.int .i64 0) := cf 12
        have f1 : wr.cell? ⟨bf, 13, none⟩ = some (.int .i64 7) := cf 13
        have f2 : wr.cell? ⟨bf, 14, none⟩ = some (.string nmDays) := cf 14
        have g0 : wr.cell? ⟨bg, 4, none⟩ = some (.int .u64 (a4 : Int)) := cg 4
        have x6 : wr.cell? ⟨w.heap.size, 6, none⟩ = some (.bool false) := cx 6
        clear cx cf cg HW0 HW1 HW2 HW3
        go_wp2_with fail
        refine (HW4.out _).mono ?_
        rintro e w5 ⟨rfl, hb5⟩
        have HO5 := Lib.hid (HO.out.keep hb5)
        have HB5 := Lib.hid (HTr.out.keep hb5).below
        clear hb5 f0 f1 f2 g0 lx lf lg HTr
        cases hk : K 4 with
        | none =>
          have hVn : V = .tuple #[.string ⟨#[]⟩, .int .i64 5] := by
            rw [← HV.out]
            unfold printV
            rw [if_neg (by intro h; have := List.all_eq_true.1 h 4 (by decide); rw [hk] at this; cases this)]
          have HVn := Lib.hid hVn
          clear hVn
          unfold fieldV
          dsimp only
          go_wp2_with fail
          go_ret2
          exact ⟨by rw [HVn.out]; rfl, HB5.out⟩
        | some l =>
          obtain ⟨tx, htx⟩ : ∃ tx : ByteArray, (⟨(fieldT l).toArray⟩ : ByteArray) = tx := ⟨_, rfl⟩
          have hfb : fieldB K 4 = tx := by rw [← htx]; unfold fieldB; rw [hk]; rfl
          have HFB := Lib.hid hfb
          have hKs : (K 4).isSome = true := by rw [hk]; rfl
          have HKs := Lib.hid hKs
          unfold fieldV
          dsimp only
          rw [htx]
          clear hfb hKs hk htx
          go_upto_region 10 with fail
          iterate 10 (first | go_values | go_skip | go_guarded | go_step | go_upon | go_back)
          refine wpList_append_own _ rfl _ _ 63 rfl w3.heap.size 9 i0 (.string ⟨#[]⟩) 1 16 Tryz.underlying63 hi hz0 hz1 hz2 rfl (by decide) v LL.length _ rfl (HO5.out.alloc _).own _ 1 1 [.string tx] rfl rfl (World.news_of_block (heap_alloc_new _ _)) (fun z hz => by simp at hz; subst hz; rfl) HM.out.1 HM.out.2 (Nat.le_trans HO5.out.below.size (by simp)) ?_
          intro v6 w6 hown6 hg6 _
          have HO6 := Lib.hid (OT.app (HO5.out.alloc _) hown6 hg6)
          clear hown6 hg6
          go_wp2_with fail
          exact ⟨⟨v6, 5, rfl, by go_num, by omega, Lib.hid (fun j hj => by rcases Nat.lt_or_ge j 4 with h | h; exact HS.out j h; (have : j = 4 := by omega); subst this; exact HKs.out), by rw [← HLs.out, HFB.out]; exact HO6⟩, by simp [intOf]⟩
    · have hi6 : i = 5 := by omega
      subst hi6
      have HB6 := Lib.hid HTr.out.below
      have hVs : V = .tuple #[.string ⟨(Lib.join (((List.range 5).map (fieldB K)).map (·.data.toList)) [32]).toArray⟩, .int .i64 0] := by
        rw [← HV.out]
        unfold printV
        rw [if_pos (List.all_eq_true.2 (fun j hj => HS.out j (List.mem_range.1 hj)))]
      have HVs := Lib.hid hVs
      have HJ := Lib.hid (join_any w3 wr v ((List.range 5).map (fieldB K)) ⟨#[32]⟩ HO.out (by simp) (fun x hx => by obtain ⟨j, hj, rfl⟩ := List.mem_map.1 hx; exact HSZ.out j (List.mem_range.1 hj)) (by decide))
      clear hVs HTr HT3
      generalize (List.range 5).map (fieldB K) = LL at *
      go_wp2_with fail
      refine HJ.out.mono ?_
      rintro e w7 ⟨rfl, hb7⟩
      have HB7 := Lib.hid (HB6.out.trans (hb7.mono HB6.out.size))
      clear hb7
      go_wp2_with fail
      go_ret2
      exact ⟨by rw [HVs.out]; rfl, HB7.out⟩

end Go.Proofs.YtlhaidibcocooaaGreatDoor
