/- Arithmetic expressions: the reference's exprShape. -/
import Derived.Test.YtiigclkebnmopaaGreatDoorArRSh
namespace Go.Proofs.YtiigclkebnmopaaGreatDoor
open Go.RowKit Go.Shelf

set_option maxRecDepth 100000 in
set_option maxHeartbeats 6400000 in
theorem rshape_n (P : Nat → Prop) (n : Int) (nm : List UInt8) (l : List Ex) (hn : n ≤ (maxN : Int)) : RSh P (.mk [110] n nm l) := by
  intro v w hx
  obtain ⟨op, hop⟩ : ∃ op, ([110] : List UInt8) = op := ⟨_, rfl⟩
  rw [hop] at hx ⊢
  obtain ⟨A, c, rfl, _, _⟩ := hx.parts
  have HOp := Lib.hid hop.symm
  have f0 : ((toB op).toList == [110]) = true := by rw [toB_toList, HOp.out]; rfl
  have HS := Lib.hid (show shaped (.mk op n nm l) = (decide (0 ≤ n) && nm == [] && l.length == 0) by
    rw [← hop]
    unfold shaped
    rw [if_pos rfl]
    have : decide (0 ≤ n ∧ n ≤ (maxN : Int)) = decide (0 ≤ n) := by
      rw [decide_eq_decide]
      exact ⟨fun h => h.1, fun h => ⟨h, hn⟩⟩
    rw [this])
  have ba := (Below.refl w.heap.size w).alloc (Nat.le_refl _) (.cells #[.string (toB op), .int .i64 n, .string (toB nm), .slice A l.length c] 25)
  have HB := Lib.hid ba
  have F := Lib.hid (Four.new w (.string (toB op)) (.int .i64 n) (.string (toB nm)) (.slice A l.length c))
  have fe : ((toB nm).toList == []) = (nm == []) := by rw [toB_toList]
  have fe2 : (toB nm).toList.isEmpty = (nm == []) := by rw [toB_toList]; cases nm <;> rfl
  clear ba hx hop hn
  go_enter Tryz.func40, Tryz.ntmps40
  obtain ⟨c0, c1, c2, c3, cf⟩ := F.out.cells
  by_cases h0 : 0 ≤ n
  · have HS0 := Lib.hid h0
    cases hnm : (nm == []) with
    | true =>
      have HNm := Lib.hid hnm
      rw [hnm] at fe fe2
      by_cases hl : l.length = 0
      · have HL := Lib.hid hl
        have hl1 : ((l.length : Int) == 0) = true := by rw [beq_iff_eq]; omega
        clear hnm hl
        go_wp2_with fail
        go_ret
        exact ⟨by rw [HS.out, HNm.out, HL.out]; simp [HS0.out], HB.out⟩
      · have HL := Lib.hid hl
        have hl1 : ((l.length : Int) == 0) = false := by rw [beq_eq_false_iff_ne]; omega
        clear hnm hl
        go_wp2_with fail
        go_ret
        exact ⟨by rw [HS.out, HNm.out]; simp [HS0.out, HL.out], HB.out⟩
    | false =>
      have HNm := Lib.hid hnm
      rw [hnm] at fe fe2
      clear hnm
      go_wp2_with fail
      go_ret
      exact ⟨by rw [HS.out, HNm.out]; simp, HB.out⟩
  · have HS0 := Lib.hid h0
    have h1 : decide (n ≥ 0) = false := by simpa using h0
    go_wp2_with fail
    go_ret
    exact ⟨by have h9 : ¬ 0 ≤ n := (by have := HS0.out; omega); rw [HS.out]; simp [h9], HB.out⟩

set_option maxRecDepth 100000 in
set_option maxHeartbeats 6400000 in
theorem rshape_v (P : Nat → Prop) (nm : List UInt8) (hl : nm.length ≤ 16384) : RSh P (.mk [118] 0 nm []) := by
  intro v w hx
  obtain ⟨op, hop⟩ : ∃ op, ([118] : List UInt8) = op := ⟨_, rfl⟩
  rw [hop] at hx ⊢
  obtain ⟨n, hn0⟩ : ∃ n : Int, 0 = n := ⟨_, rfl⟩
  rw [hn0] at hx ⊢
  obtain ⟨A, c, rfl, _, _⟩ := hx.parts
  have HOp := Lib.hid hop.symm
  have f0 : ((toB op).toList == [110]) = false := by rw [toB_toList, HOp.out]; rfl
  have f1 : ((toB op).toList == [118]) = true := by rw [toB_toList, HOp.out]; rfl
  have HS := Lib.hid (show shaped (.mk op n nm []) = varOk nm by
    rw [← hop, ← hn0]
    unfold shaped
    rw [if_neg (by decide), if_pos rfl]
    simp)
  have ba := (Below.refl w.heap.size w).alloc (Nat.le_refl _) (.cells #[.string (toB op), .int .i64 n, .string (toB nm), .slice A ([] : List Ex).length c] 25)
  have HB := Lib.hid ba
  have F := Lib.hid (Four.new w (.string (toB op)) (.int .i64 n) (.string (toB nm)) (.slice A ([] : List Ex).length c))
  have fa : ((toB nm).toList == [35]) = (nm == [35]) := by rw [toB_toList]
  have fb : ((toB nm).toList == [63]) = (nm == [63]) := by rw [toB_toList]
  have hz := toB_size nm
  subst hn0
  clear ba hx hop
  go_enter Tryz.func40, Tryz.ntmps40
  obtain ⟨c0, c1, c2, c3, cf⟩ := F.out.cells
  go_wp2_with fail
  refine (risName_any nm _).mono ?_
  rintro e w2 ⟨rfl, rfl⟩
  cases h1 : isNm nm with
  | true =>
    have H1 := Lib.hid h1
    clear h1
    go_wp2_with fail
    go_ret
    exact ⟨by rw [HS.out]; unfold varOk; rw [H1.out]; rfl, HB.out⟩
  | false =>
    have H1 := Lib.hid h1
    clear h1
    cases h2 : (nm == [35]) with
    | true =>
      have H2 := Lib.hid h2
      rw [h2] at fa
      clear h2
      go_wp2_with fail
      go_ret
      exact ⟨by rw [HS.out]; unfold varOk; rw [H1.out, H2.out]; rfl, HB.out⟩
    | false =>
      have H2 := Lib.hid h2
      rw [h2] at fa
      clear h2
      cases h3 : (nm == [63]) with
      | true =>
        have H3 := Lib.hid h3
        rw [h3] at fb
        clear h3
        go_wp2_with fail
        go_ret
        exact ⟨by rw [HS.out]; unfold varOk; rw [H1.out, H2.out, H3.out]; rfl, HB.out⟩
      | false =>
        have H3 := Lib.hid h3
        rw [h3] at fb
        clear h3
        go_wp2_with fail
        refine (rplain_any nm _ hl).mono ?_
        rintro e w2 ⟨rfl, rfl⟩
        cases h4 : posOk nm with
        | false =>
          have H4 := Lib.hid h4
          clear h4
          go_wp2_with fail
          go_ret
          exact ⟨by rw [HS.out]; unfold varOk; rw [H1.out, H2.out, H3.out, H4.out]; rfl, HB.out⟩
        | true =>
          have hne : nm ≠ [] := by rintro rfl; exact absurd h4 (by decide)
          have HT := Lib.hid (trim_digits nm hne (by omega))
          have H4 := Lib.hid h4
          clear h4 hne
          go_wp2_with fail
          refine (HT.out _).mono ?_
          rintro e w3 ⟨⟨s, rfl, hs⟩, hb3⟩
          have HB3 := Lib.hid (HB.out.trans (hb3.mono HB.out.size))
          have HSs := Lib.hid hs
          have hse : s.toList.isEmpty = (s.toList == []) := by cases s.toList <;> rfl
          clear hb3
          cases h5 : nm.all isD with
          | true =>
            have H5 := Lib.hid h5
            rw [h5] at hs
            rw [hs] at hse
            clear h5
            go_wp2_with fail
            go_ret
            exact ⟨by rw [HS.out]; unfold varOk; rw [H1.out, H2.out, H3.out, H4.out, H5.out]; rfl, HB3.out⟩
          | false =>
            have H5 := Lib.hid h5
            rw [h5] at hs
            rw [hs] at hse
            clear h5
            go_wp2_with fail
            go_ret
            exact ⟨by rw [HS.out]; unfold varOk; rw [H1.out, H2.out, H3.out, H4.out, H5.out]; rfl, HB3.out⟩

set_option maxRecDepth 100000 in
set_option maxHeartbeats 6400000 in
theorem rshape_e (P : Nat → Prop) (nm : List UInt8) (y : Ex) (IH : RSh P y) : RSh P (.mk [101] 0 nm [y]) := by
  intro v w hx
  obtain ⟨op, hop⟩ : ∃ op, ([101] : List UInt8) = op := ⟨_, rfl⟩
  rw [hop] at hx ⊢
  obtain ⟨n, hn0⟩ : ∃ n : Int, 0 = n := ⟨_, rfl⟩
  rw [hn0] at hx ⊢
  obtain ⟨A, c, rfl, _, hA⟩ := hx.parts
  have HOp := Lib.hid hop.symm
  have f0 : ((toB op).toList == [110]) = false := by rw [toB_toList, HOp.out]; rfl
  have f1 : ((toB op).toList == [118]) = false := by rw [toB_toList, HOp.out]; rfl
  have f2 : ((toB op).toList == [101]) = true := by rw [toB_toList, HOp.out]; rfl
  have HS := Lib.hid (show shaped (.mk op n nm [y]) = (isNm nm && shaped y) by
    rw [← hop, ← hn0]
    have e : shapeds [y] = shaped y := by simp [shapeds]
    conv => lhs; unfold shaped
    rw [if_neg (by decide), if_neg (by decide), if_pos rfl, e]
    simp)
  have ba := (Below.refl w.heap.size w).alloc (Nat.le_refl _) (.cells #[.string (toB op), .int .i64 n, .string (toB nm), .slice A [y].length c] 25)
  have HB := Lib.hid ba
  have F := Lib.hid (Four.new w (.string (toB op)) (.int .i64 n) (.string (toB nm)) (.slice A [y].length c))
  obtain ⟨g, off, rfl, _, hg, hL⟩ := hA.below ba (by simp)
  obtain ⟨v0, v1, v2, v3, p0, p1, p2, p3, hxy⟩ := ex0 hL
  obtain ⟨n5, A5, k5, c5, nm5, hv, hq5⟩ := hxy.form
  simp only [Value.agg.injEq, Array.mk.injEq, List.cons.injEq, and_true] at hv
  clear hq5
  obtain ⟨rfl, rfl, rfl, rfl⟩ := hv
  have HI := Lib.hid (IH _ _ hxy)
  subst hn0
  clear ba hx hop hA hL hxy IH
  go_enter Tryz.func40, Tryz.ntmps40
  obtain ⟨c0, c1, c2, c3, cf⟩ := F.out.cells
  go_wp2_with fail
  generalize w.alloc (.cells #[.string (toB op), .int .i64 0, .string (toB nm), .slice (some ⟨g, off, none⟩) [y].length c] 25) = w1 at *
  refine (risName_any nm _).mono ?_
  rintro e w2 ⟨rfl, rfl⟩
  cases h1 : isNm nm with
  | false =>
    have H1 := Lib.hid h1
    clear h1
    go_wp2_with fail
    go_ret
    exact ⟨by rw [HS.out, H1.out]; rfl, HB.out⟩
  | true =>
    have H1 := Lib.hid h1
    clear h1
    go_wp2_with fail
    refine HI.out.mono ?_
    rintro e w3 ⟨rfl, hb3⟩
    have HB3 := Lib.hid (HB.out.trans (hb3.mono HB.out.size))
    clear hb3
    go_wp2_with fail
    go_ret
    exact ⟨by rw [HS.out, H1.out]; rfl, HB3.out⟩

theorem all_ne (op : List UInt8) : (∃ L ∈ ([[110], [118], [101], [117, 45], [117, 43], [33], [126], [43, 43, 118], [45, 45, 118], [118, 43, 43], [118, 45, 45], [63], [42], [47], [37], [43], [45], [60, 60], [62, 62], [60], [60, 61], [62], [62, 61], [61, 61], [33, 61], [38], [94], [124], [38, 38], [124, 124], [44], [61], [42, 61], [47, 61], [37, 61], [43, 61], [45, 61], [60, 60, 61], [62, 62, 61], [38, 61], [94, 61], [124, 61]] : List (List UInt8)), op = L) ∨ ∀ M ∈ ([[110], [118], [101], [117, 45], [117, 43], [33], [126], [43, 43, 118], [45, 45, 118], [118, 43, 43], [118, 45, 45], [63], [42], [47], [37], [43], [45], [60, 60], [62, 62], [60], [60, 61], [62], [62, 61], [61, 61], [33, 61], [38], [94], [124], [38, 38], [124, 124], [44], [61], [42, 61], [47, 61], [37, 61], [43, 61], [45, 61], [60, 60, 61], [62, 62, 61], [38, 61], [94, 61], [124, 61]] : List (List UInt8)), (op == M) = false := by
  by_cases h : op ∈ ([[110], [118], [101], [117, 45], [117, 43], [33], [126], [43, 43, 118], [45, 45, 118], [118, 43, 43], [118, 45, 45], [63], [42], [47], [37], [43], [45], [60, 60], [62, 62], [60], [60, 61], [62], [62, 61], [61, 61], [33, 61], [38], [94], [124], [38, 38], [124, 124], [44], [61], [42, 61], [47, 61], [37, 61], [43, 61], [45, 61], [60, 60, 61], [62, 62, 61], [38, 61], [94, 61], [124, 61]] : List (List UInt8))
  · exact .inl ⟨op, h, rfl⟩
  · exact .inr fun M hM => beq_eq_false_iff_ne.2 fun e => h (e ▸ hM)
theorem cmpB {op L : List UInt8} (h : op = L) (M : List UInt8) {b : Bool} (hb : (L == M) = b) : ((toB op).toList == M) = b := by rw [toB_toList, h]; exact hb
set_option maxRecDepth 100000 in
set_option maxHeartbeats 6400000 in
theorem rshape_bad (P : Nat → Prop) (op nm : List UInt8) (n : Int) (l : List Ex) (hn : n ≠ 0) (h0 : op ≠ [110]) (v : Value) (w : World) (hx : ExV P w v (.mk op n nm l)) :
    Calls Tryz.prog 40 #[v] w fun e w' => e = .returned (.bool false) ∧ Below w.heap.size w w' := by
  obtain ⟨A, c, rfl, _, _⟩ := hx.parts
  have ba := (Below.refl w.heap.size w).alloc (Nat.le_refl _) (.cells #[.string (toB op), .int .i64 n, .string (toB nm), .slice A l.length c] 25)
  have HB := Lib.hid ba
  have F := Lib.hid (Four.new w (.string (toB op)) (.int .i64 n) (.string (toB nm)) (.slice A l.length c))
  have hn1 : (n == 0) = false := by rw [beq_eq_false_iff_ne]; exact hn
  have hn2 : (n != 0) = true := by rw [bne_iff_ne]; exact hn
  clear ba hx hn
  rcases all_ne op with ⟨L, hL, hop⟩ | hne
  · have HOp0 := Lib.hid hop
    simp only [List.mem_cons, List.not_mem_nil, or_false] at hL
    clear hop
    rcases hL with rfl | rfl | rfl | rfl | rfl | rfl | rfl | rfl | rfl | rfl | rfl | rfl | rfl | rfl | rfl | rfl | rfl | rfl | rfl | rfl | rfl | rfl | rfl | rfl | rfl | rfl | rfl | rfl | rfl | rfl | rfl | rfl | rfl | rfl | rfl | rfl | rfl | rfl | rfl | rfl | rfl | rfl
    · exact absurd HOp0.out h0
    · have HOp := HOp0
      have f0 := cmpB (b := false) HOp.out [110] rfl
      have f1 := cmpB (b := true) HOp.out [118] rfl
      clear h0
      go_enter Tryz.func40, Tryz.ntmps40
      obtain ⟨c0, c1, c2, c3, cf⟩ := F.out.cells
      go_wp2_with fail
      go_ret
      exact ⟨rfl, HB.out⟩
    · have HOp := HOp0
      have f0 := cmpB (b := false) HOp.out [110] rfl
      have f1 := cmpB (b := false) HOp.out [118] rfl
      have f2 := cmpB (b := true) HOp.out [101] rfl
      clear h0
      go_enter Tryz.func40, Tryz.ntmps40
      obtain ⟨c0, c1, c2, c3, cf⟩ := F.out.cells
      go_wp2_with fail
      go_ret
      exact ⟨rfl, HB.out⟩
    · have HOp := HOp0
      have f0 := cmpB (b := false) HOp.out [110] rfl
      have f1 := cmpB (b := false) HOp.out [118] rfl
      have f2 := cmpB (b := false) HOp.out [101] rfl
      have f3 := cmpB (b := true) HOp.out [117, 45] rfl
      clear h0
      go_enter Tryz.func40, Tryz.ntmps40
      obtain ⟨c0, c1, c2, c3, cf⟩ := F.out.cells
      go_wp2_with fail
      go_ret
      exact ⟨rfl, HB.out⟩
    · have HOp := HOp0
      have f0 := cmpB (b := false) HOp.out [110] rfl
      have f1 := cmpB (b := false) HOp.out [118] rfl
      have f2 := cmpB (b := false) HOp.out [101] rfl
      have f3 := cmpB (b := false) HOp.out [117, 45] rfl
      have f4 := cmpB (b := true) HOp.out [117, 43] rfl
      clear h0
      go_enter Tryz.func40, Tryz.ntmps40
      obtain ⟨c0, c1, c2, c3, cf⟩ := F.out.cells
      go_wp2_with fail
      go_ret
      exact ⟨rfl, HB.out⟩
    · have HOp := HOp0
      have f0 := cmpB (b := false) HOp.out [110] rfl
      have f1 := cmpB (b := false) HOp.out [118] rfl
      have f2 := cmpB (b := false) HOp.out [101] rfl
      have f3 := cmpB (b := false) HOp.out [117, 45] rfl
      have f4 := cmpB (b := false) HOp.out [117, 43] rfl
      have f5 := cmpB (b := true) HOp.out [33] rfl
      clear h0
      go_enter Tryz.func40, Tryz.ntmps40
      obtain ⟨c0, c1, c2, c3, cf⟩ := F.out.cells
      go_wp2_with fail
      go_ret
      exact ⟨rfl, HB.out⟩
    · have HOp := HOp0
      have f0 := cmpB (b := false) HOp.out [110] rfl
      have f1 := cmpB (b := false) HOp.out [118] rfl
      have f2 := cmpB (b := false) HOp.out [101] rfl
      have f3 := cmpB (b := false) HOp.out [117, 45] rfl
      have f4 := cmpB (b := false) HOp.out [117, 43] rfl
      have f5 := cmpB (b := false) HOp.out [33] rfl
      have f6 := cmpB (b := true) HOp.out [126] rfl
      clear h0
      go_enter Tryz.func40, Tryz.ntmps40
      obtain ⟨c0, c1, c2, c3, cf⟩ := F.out.cells
      go_wp2_with fail
      go_ret
      exact ⟨rfl, HB.out⟩
    · have HOp := HOp0
      have f0 := cmpB (b := false) HOp.out [110] rfl
      have f1 := cmpB (b := false) HOp.out [118] rfl
      have f2 := cmpB (b := false) HOp.out [101] rfl
      have f3 := cmpB (b := false) HOp.out [117, 45] rfl
      have f4 := cmpB (b := false) HOp.out [117, 43] rfl
      have f5 := cmpB (b := false) HOp.out [33] rfl
      have f6 := cmpB (b := false) HOp.out [126] rfl
      have f7 := cmpB (b := true) HOp.out [43, 43, 118] rfl
      clear h0
      go_enter Tryz.func40, Tryz.ntmps40
      obtain ⟨c0, c1, c2, c3, cf⟩ := F.out.cells
      go_wp2_with fail
      go_ret
      exact ⟨rfl, HB.out⟩
    · have HOp := HOp0
      have f0 := cmpB (b := false) HOp.out [110] rfl
      have f1 := cmpB (b := false) HOp.out [118] rfl
      have f2 := cmpB (b := false) HOp.out [101] rfl
      have f3 := cmpB (b := false) HOp.out [117, 45] rfl
      have f4 := cmpB (b := false) HOp.out [117, 43] rfl
      have f5 := cmpB (b := false) HOp.out [33] rfl
      have f6 := cmpB (b := false) HOp.out [126] rfl
      have f7 := cmpB (b := false) HOp.out [43, 43, 118] rfl
      have f8 := cmpB (b := true) HOp.out [45, 45, 118] rfl
      clear h0
      go_enter Tryz.func40, Tryz.ntmps40
      obtain ⟨c0, c1, c2, c3, cf⟩ := F.out.cells
      go_wp2_with fail
      go_ret
      exact ⟨rfl, HB.out⟩
    · have HOp := HOp0
      have f0 := cmpB (b := false) HOp.out [110] rfl
      have f1 := cmpB (b := false) HOp.out [118] rfl
      have f2 := cmpB (b := false) HOp.out [101] rfl
      have f3 := cmpB (b := false) HOp.out [117, 45] rfl
      have f4 := cmpB (b := false) HOp.out [117, 43] rfl
      have f5 := cmpB (b := false) HOp.out [33] rfl
      have f6 := cmpB (b := false) HOp.out [126] rfl
      have f7 := cmpB (b := false) HOp.out [43, 43, 118] rfl
      have f8 := cmpB (b := false) HOp.out [45, 45, 118] rfl
      have f9 := cmpB (b := true) HOp.out [118, 43, 43] rfl
      clear h0
      go_enter Tryz.func40, Tryz.ntmps40
      obtain ⟨c0, c1, c2, c3, cf⟩ := F.out.cells
      go_wp2_with fail
      go_ret
      exact ⟨rfl, HB.out⟩
    · have HOp := HOp0
      have f0 := cmpB (b := false) HOp.out [110] rfl
      have f1 := cmpB (b := false) HOp.out [118] rfl
      have f2 := cmpB (b := false) HOp.out [101] rfl
      have f3 := cmpB (b := false) HOp.out [117, 45] rfl
      have f4 := cmpB (b := false) HOp.out [117, 43] rfl
      have f5 := cmpB (b := false) HOp.out [33] rfl
      have f6 := cmpB (b := false) HOp.out [126] rfl
      have f7 := cmpB (b := false) HOp.out [43, 43, 118] rfl
      have f8 := cmpB (b := false) HOp.out [45, 45, 118] rfl
      have f9 := cmpB (b := false) HOp.out [118, 43, 43] rfl
      have f10 := cmpB (b := true) HOp.out [118, 45, 45] rfl
      clear h0
      go_enter Tryz.func40, Tryz.ntmps40
      obtain ⟨c0, c1, c2, c3, cf⟩ := F.out.cells
      go_wp2_with fail
      go_ret
      exact ⟨rfl, HB.out⟩
    · have HOp := HOp0
      have f0 := cmpB (b := false) HOp.out [110] rfl
      have f1 := cmpB (b := false) HOp.out [118] rfl
      have f2 := cmpB (b := false) HOp.out [101] rfl
      have f3 := cmpB (b := false) HOp.out [117, 45] rfl
      have f4 := cmpB (b := false) HOp.out [117, 43] rfl
      have f5 := cmpB (b := false) HOp.out [33] rfl
      have f6 := cmpB (b := false) HOp.out [126] rfl
      have f7 := cmpB (b := false) HOp.out [43, 43, 118] rfl
      have f8 := cmpB (b := false) HOp.out [45, 45, 118] rfl
      have f9 := cmpB (b := false) HOp.out [118, 43, 43] rfl
      have f10 := cmpB (b := false) HOp.out [118, 45, 45] rfl
      have f11 := cmpB (b := true) HOp.out [63] rfl
      clear h0
      go_enter Tryz.func40, Tryz.ntmps40
      obtain ⟨c0, c1, c2, c3, cf⟩ := F.out.cells
      go_wp2_with fail
      go_ret
      exact ⟨rfl, HB.out⟩
    · have HOp := HOp0
      have f0 := cmpB (b := false) HOp.out [110] rfl
      have f1 := cmpB (b := false) HOp.out [118] rfl
      have f2 := cmpB (b := false) HOp.out [101] rfl
      have f3 := cmpB (b := false) HOp.out [117, 45] rfl
      have f4 := cmpB (b := false) HOp.out [117, 43] rfl
      have f5 := cmpB (b := false) HOp.out [33] rfl
      have f6 := cmpB (b := false) HOp.out [126] rfl
      have f7 := cmpB (b := false) HOp.out [43, 43, 118] rfl
      have f8 := cmpB (b := false) HOp.out [45, 45, 118] rfl
      have f9 := cmpB (b := false) HOp.out [118, 43, 43] rfl
      have f10 := cmpB (b := false) HOp.out [118, 45, 45] rfl
      have f11 := cmpB (b := false) HOp.out [63] rfl
      have f12 := cmpB (b := true) HOp.out [42] rfl
      clear h0
      go_enter Tryz.func40, Tryz.ntmps40
      obtain ⟨c0, c1, c2, c3, cf⟩ := F.out.cells
      go_wp2_with fail
      go_ret
      exact ⟨rfl, HB.out⟩
    · have HOp := HOp0
      have f0 := cmpB (b := false) HOp.out [110] rfl
      have f1 := cmpB (b := false) HOp.out [118] rfl
      have f2 := cmpB (b := false) HOp.out [101] rfl
      have f3 := cmpB (b := false) HOp.out [117, 45] rfl
      have f4 := cmpB (b := false) HOp.out [117, 43] rfl
      have f5 := cmpB (b := false) HOp.out [33] rfl
      have f6 := cmpB (b := false) HOp.out [126] rfl
      have f7 := cmpB (b := false) HOp.out [43, 43, 118] rfl
      have f8 := cmpB (b := false) HOp.out [45, 45, 118] rfl
      have f9 := cmpB (b := false) HOp.out [118, 43, 43] rfl
      have f10 := cmpB (b := false) HOp.out [118, 45, 45] rfl
      have f11 := cmpB (b := false) HOp.out [63] rfl
      have f12 := cmpB (b := false) HOp.out [42] rfl
      have f13 := cmpB (b := true) HOp.out [47] rfl
      clear h0
      go_enter Tryz.func40, Tryz.ntmps40
      obtain ⟨c0, c1, c2, c3, cf⟩ := F.out.cells
      go_wp2_with fail
      go_ret
      exact ⟨rfl, HB.out⟩
    · have HOp := HOp0
      have f0 := cmpB (b := false) HOp.out [110] rfl
      have f1 := cmpB (b := false) HOp.out [118] rfl
      have f2 := cmpB (b := false) HOp.out [101] rfl
      have f3 := cmpB (b := false) HOp.out [117, 45] rfl
      have f4 := cmpB (b := false) HOp.out [117, 43] rfl
      have f5 := cmpB (b := false) HOp.out [33] rfl
      have f6 := cmpB (b := false) HOp.out [126] rfl
      have f7 := cmpB (b := false) HOp.out [43, 43, 118] rfl
      have f8 := cmpB (b := false) HOp.out [45, 45, 118] rfl
      have f9 := cmpB (b := false) HOp.out [118, 43, 43] rfl
      have f10 := cmpB (b := false) HOp.out [118, 45, 45] rfl
      have f11 := cmpB (b := false) HOp.out [63] rfl
      have f12 := cmpB (b := false) HOp.out [42] rfl
      have f13 := cmpB (b := false) HOp.out [47] rfl
      have f14 := cmpB (b := true) HOp.out [37] rfl
      clear h0
      go_enter Tryz.func40, Tryz.ntmps40
      obtain ⟨c0, c1, c2, c3, cf⟩ := F.out.cells
      go_wp2_with fail
      go_ret
      exact ⟨rfl, HB.out⟩
    · have HOp := HOp0
      have f0 := cmpB (b := false) HOp.out [110] rfl
      have f1 := cmpB (b := false) HOp.out [118] rfl
      have f2 := cmpB (b := false) HOp.out [101] rfl
      have f3 := cmpB (b := false) HOp.out [117, 45] rfl
      have f4 := cmpB (b := false) HOp.out [117, 43] rfl
      have f5 := cmpB (b := false) HOp.out [33] rfl
      have f6 := cmpB (b := false) HOp.out [126] rfl
      have f7 := cmpB (b := false) HOp.out [43, 43, 118] rfl
      have f8 := cmpB (b := false) HOp.out [45, 45, 118] rfl
      have f9 := cmpB (b := false) HOp.out [118, 43, 43] rfl
      have f10 := cmpB (b := false) HOp.out [118, 45, 45] rfl
      have f11 := cmpB (b := false) HOp.out [63] rfl
      have f12 := cmpB (b := false) HOp.out [42] rfl
      have f13 := cmpB (b := false) HOp.out [47] rfl
      have f14 := cmpB (b := false) HOp.out [37] rfl
      have f15 := cmpB (b := true) HOp.out [43] rfl
      clear h0
      go_enter Tryz.func40, Tryz.ntmps40
      obtain ⟨c0, c1, c2, c3, cf⟩ := F.out.cells
      go_wp2_with fail
      go_ret
      exact ⟨rfl, HB.out⟩
    · have HOp := HOp0
      have f0 := cmpB (b := false) HOp.out [110] rfl
      have f1 := cmpB (b := false) HOp.out [118] rfl
      have f2 := cmpB (b := false) HOp.out [101] rfl
      have f3 := cmpB (b := false) HOp.out [117, 45] rfl
      have f4 := cmpB (b := false) HOp.out [117, 43] rfl
      have f5 := cmpB (b := false) HOp.out [33] rfl
      have f6 := cmpB (b := false) HOp.out [126] rfl
      have f7 := cmpB (b := false) HOp.out [43, 43, 118] rfl
      have f8 := cmpB (b := false) HOp.out [45, 45, 118] rfl
      have f9 := cmpB (b := false) HOp.out [118, 43, 43] rfl
      have f10 := cmpB (b := false) HOp.out [118, 45, 45] rfl
      have f11 := cmpB (b := false) HOp.out [63] rfl
      have f12 := cmpB (b := false) HOp.out [42] rfl
      have f13 := cmpB (b := false) HOp.out [47] rfl
      have f14 := cmpB (b := false) HOp.out [37] rfl
      have f15 := cmpB (b := false) HOp.out [43] rfl
      have f16 := cmpB (b := true) HOp.out [45] rfl
      clear h0
      go_enter Tryz.func40, Tryz.ntmps40
      obtain ⟨c0, c1, c2, c3, cf⟩ := F.out.cells
      go_wp2_with fail
      go_ret
      exact ⟨rfl, HB.out⟩
    · have HOp := HOp0
      have f0 := cmpB (b := false) HOp.out [110] rfl
      have f1 := cmpB (b := false) HOp.out [118] rfl
      have f2 := cmpB (b := false) HOp.out [101] rfl
      have f3 := cmpB (b := false) HOp.out [117, 45] rfl
      have f4 := cmpB (b := false) HOp.out [117, 43] rfl
      have f5 := cmpB (b := false) HOp.out [33] rfl
      have f6 := cmpB (b := false) HOp.out [126] rfl
      have f7 := cmpB (b := false) HOp.out [43, 43, 118] rfl
      have f8 := cmpB (b := false) HOp.out [45, 45, 118] rfl
      have f9 := cmpB (b := false) HOp.out [118, 43, 43] rfl
      have f10 := cmpB (b := false) HOp.out [118, 45, 45] rfl
      have f11 := cmpB (b := false) HOp.out [63] rfl
      have f12 := cmpB (b := false) HOp.out [42] rfl
      have f13 := cmpB (b := false) HOp.out [47] rfl
      have f14 := cmpB (b := false) HOp.out [37] rfl
      have f15 := cmpB (b := false) HOp.out [43] rfl
      have f16 := cmpB (b := false) HOp.out [45] rfl
      have f17 := cmpB (b := true) HOp.out [60, 60] rfl
      clear h0
      go_enter Tryz.func40, Tryz.ntmps40
      obtain ⟨c0, c1, c2, c3, cf⟩ := F.out.cells
      go_wp2_with fail
      go_ret
      exact ⟨rfl, HB.out⟩
    · have HOp := HOp0
      have f0 := cmpB (b := false) HOp.out [110] rfl
      have f1 := cmpB (b := false) HOp.out [118] rfl
      have f2 := cmpB (b := false) HOp.out [101] rfl
      have f3 := cmpB (b := false) HOp.out [117, 45] rfl
      have f4 := cmpB (b := false) HOp.out [117, 43] rfl
      have f5 := cmpB (b := false) HOp.out [33] rfl
      have f6 := cmpB (b := false) HOp.out [126] rfl
      have f7 := cmpB (b := false) HOp.out [43, 43, 118] rfl
      have f8 := cmpB (b := false) HOp.out [45, 45, 118] rfl
      have f9 := cmpB (b := false) HOp.out [118, 43, 43] rfl
      have f10 := cmpB (b := false) HOp.out [118, 45, 45] rfl
      have f11 := cmpB (b := false) HOp.out [63] rfl
      have f12 := cmpB (b := false) HOp.out [42] rfl
      have f13 := cmpB (b := false) HOp.out [47] rfl
      have f14 := cmpB (b := false) HOp.out [37] rfl
      have f15 := cmpB (b := false) HOp.out [43] rfl
      have f16 := cmpB (b := false) HOp.out [45] rfl
      have f17 := cmpB (b := false) HOp.out [60, 60] rfl
      have f18 := cmpB (b := true) HOp.out [62, 62] rfl
      clear h0
      go_enter Tryz.func40, Tryz.ntmps40
      obtain ⟨c0, c1, c2, c3, cf⟩ := F.out.cells
      go_wp2_with fail
      go_ret
      exact ⟨rfl, HB.out⟩
    · have HOp := HOp0
      have f0 := cmpB (b := false) HOp.out [110] rfl
      have f1 := cmpB (b := false) HOp.out [118] rfl
      have f2 := cmpB (b := false) HOp.out [101] rfl
      have f3 := cmpB (b := false) HOp.out [117, 45] rfl
      have f4 := cmpB (b := false) HOp.out [117, 43] rfl
      have f5 := cmpB (b := false) HOp.out [33] rfl
      have f6 := cmpB (b := false) HOp.out [126] rfl
      have f7 := cmpB (b := false) HOp.out [43, 43, 118] rfl
      have f8 := cmpB (b := false) HOp.out [45, 45, 118] rfl
      have f9 := cmpB (b := false) HOp.out [118, 43, 43] rfl
      have f10 := cmpB (b := false) HOp.out [118, 45, 45] rfl
      have f11 := cmpB (b := false) HOp.out [63] rfl
      have f12 := cmpB (b := false) HOp.out [42] rfl
      have f13 := cmpB (b := false) HOp.out [47] rfl
      have f14 := cmpB (b := false) HOp.out [37] rfl
      have f15 := cmpB (b := false) HOp.out [43] rfl
      have f16 := cmpB (b := false) HOp.out [45] rfl
      have f17 := cmpB (b := false) HOp.out [60, 60] rfl
      have f18 := cmpB (b := false) HOp.out [62, 62] rfl
      have f19 := cmpB (b := true) HOp.out [60] rfl
      clear h0
      go_enter Tryz.func40, Tryz.ntmps40
      obtain ⟨c0, c1, c2, c3, cf⟩ := F.out.cells
      go_wp2_with fail
      go_ret
      exact ⟨rfl, HB.out⟩
    · have HOp := HOp0
      have f0 := cmpB (b := false) HOp.out [110] rfl
      have f1 := cmpB (b := false) HOp.out [118] rfl
      have f2 := cmpB (b := false) HOp.out [101] rfl
      have f3 := cmpB (b := false) HOp.out [117, 45] rfl
      have f4 := cmpB (b := false) HOp.out [117, 43] rfl
      have f5 := cmpB (b := false) HOp.out [33] rfl
      have f6 := cmpB (b := false) HOp.out [126] rfl
      have f7 := cmpB (b := false) HOp.out [43, 43, 118] rfl
      have f8 := cmpB (b := false) HOp.out [45, 45, 118] rfl
      have f9 := cmpB (b := false) HOp.out [118, 43, 43] rfl
      have f10 := cmpB (b := false) HOp.out [118, 45, 45] rfl
      have f11 := cmpB (b := false) HOp.out [63] rfl
      have f12 := cmpB (b := false) HOp.out [42] rfl
      have f13 := cmpB (b := false) HOp.out [47] rfl
      have f14 := cmpB (b := false) HOp.out [37] rfl
      have f15 := cmpB (b := false) HOp.out [43] rfl
      have f16 := cmpB (b := false) HOp.out [45] rfl
      have f17 := cmpB (b := false) HOp.out [60, 60] rfl
      have f18 := cmpB (b := false) HOp.out [62, 62] rfl
      have f19 := cmpB (b := false) HOp.out [60] rfl
      have f20 := cmpB (b := true) HOp.out [60, 61] rfl
      clear h0
      go_enter Tryz.func40, Tryz.ntmps40
      obtain ⟨c0, c1, c2, c3, cf⟩ := F.out.cells
      go_wp2_with fail
      go_ret
      exact ⟨rfl, HB.out⟩
    · have HOp := HOp0
      have f0 := cmpB (b := false) HOp.out [110] rfl
      have f1 := cmpB (b := false) HOp.out [118] rfl
      have f2 := cmpB (b := false) HOp.out [101] rfl
      have f3 := cmpB (b := false) HOp.out [117, 45] rfl
      have f4 := cmpB (b := false) HOp.out [117, 43] rfl
      have f5 := cmpB (b := false) HOp.out [33] rfl
      have f6 := cmpB (b := false) HOp.out [126] rfl
      have f7 := cmpB (b := false) HOp.out [43, 43, 118] rfl
      have f8 := cmpB (b := false) HOp.out [45, 45, 118] rfl
      have f9 := cmpB (b := false) HOp.out [118, 43, 43] rfl
      have f10 := cmpB (b := false) HOp.out [118, 45, 45] rfl
      have f11 := cmpB (b := false) HOp.out [63] rfl
      have f12 := cmpB (b := false) HOp.out [42] rfl
      have f13 := cmpB (b := false) HOp.out [47] rfl
      have f14 := cmpB (b := false) HOp.out [37] rfl
      have f15 := cmpB (b := false) HOp.out [43] rfl
      have f16 := cmpB (b := false) HOp.out [45] rfl
      have f17 := cmpB (b := false) HOp.out [60, 60] rfl
      have f18 := cmpB (b := false) HOp.out [62, 62] rfl
      have f19 := cmpB (b := false) HOp.out [60] rfl
      have f20 := cmpB (b := false) HOp.out [60, 61] rfl
      have f21 := cmpB (b := true) HOp.out [62] rfl
      clear h0
      go_enter Tryz.func40, Tryz.ntmps40
      obtain ⟨c0, c1, c2, c3, cf⟩ := F.out.cells
      go_wp2_with fail
      go_ret
      exact ⟨rfl, HB.out⟩
    · have HOp := HOp0
      have f0 := cmpB (b := false) HOp.out [110] rfl
      have f1 := cmpB (b := false) HOp.out [118] rfl
      have f2 := cmpB (b := false) HOp.out [101] rfl
      have f3 := cmpB (b := false) HOp.out [117, 45] rfl
      have f4 := cmpB (b := false) HOp.out [117, 43] rfl
      have f5 := cmpB (b := false) HOp.out [33] rfl
      have f6 := cmpB (b := false) HOp.out [126] rfl
      have f7 := cmpB (b := false) HOp.out [43, 43, 118] rfl
      have f8 := cmpB (b := false) HOp.out [45, 45, 118] rfl
      have f9 := cmpB (b := false) HOp.out [118, 43, 43] rfl
      have f10 := cmpB (b := false) HOp.out [118, 45, 45] rfl
      have f11 := cmpB (b := false) HOp.out [63] rfl
      have f12 := cmpB (b := false) HOp.out [42] rfl
      have f13 := cmpB (b := false) HOp.out [47] rfl
      have f14 := cmpB (b := false) HOp.out [37] rfl
      have f15 := cmpB (b := false) HOp.out [43] rfl
      have f16 := cmpB (b := false) HOp.out [45] rfl
      have f17 := cmpB (b := false) HOp.out [60, 60] rfl
      have f18 := cmpB (b := false) HOp.out [62, 62] rfl
      have f19 := cmpB (b := false) HOp.out [60] rfl
      have f20 := cmpB (b := false) HOp.out [60, 61] rfl
      have f21 := cmpB (b := false) HOp.out [62] rfl
      have f22 := cmpB (b := true) HOp.out [62, 61] rfl
      clear h0
      go_enter Tryz.func40, Tryz.ntmps40
      obtain ⟨c0, c1, c2, c3, cf⟩ := F.out.cells
      go_wp2_with fail
      go_ret
      exact ⟨rfl, HB.out⟩
    · have HOp := HOp0
      have f0 := cmpB (b := false) HOp.out [110] rfl
      have f1 := cmpB (b := false) HOp.out [118] rfl
      have f2 := cmpB (b := false) HOp.out [101] rfl
      have f3 := cmpB (b := false) HOp.out [117, 45] rfl
      have f4 := cmpB (b := false) HOp.out [117, 43] rfl
      have f5 := cmpB (b := false) HOp.out [33] rfl
      have f6 := cmpB (b := false) HOp.out [126] rfl
      have f7 := cmpB (b := false) HOp.out [43, 43, 118] rfl
      have f8 := cmpB (b := false) HOp.out [45, 45, 118] rfl
      have f9 := cmpB (b := false) HOp.out [118, 43, 43] rfl
      have f10 := cmpB (b := false) HOp.out [118, 45, 45] rfl
      have f11 := cmpB (b := false) HOp.out [63] rfl
      have f12 := cmpB (b := false) HOp.out [42] rfl
      have f13 := cmpB (b := false) HOp.out [47] rfl
      have f14 := cmpB (b := false) HOp.out [37] rfl
      have f15 := cmpB (b := false) HOp.out [43] rfl
      have f16 := cmpB (b := false) HOp.out [45] rfl
      have f17 := cmpB (b := false) HOp.out [60, 60] rfl
      have f18 := cmpB (b := false) HOp.out [62, 62] rfl
      have f19 := cmpB (b := false) HOp.out [60] rfl
      have f20 := cmpB (b := false) HOp.out [60, 61] rfl
      have f21 := cmpB (b := false) HOp.out [62] rfl
      have f22 := cmpB (b := false) HOp.out [62, 61] rfl
      have f23 := cmpB (b := true) HOp.out [61, 61] rfl
      clear h0
      go_enter Tryz.func40, Tryz.ntmps40
      obtain ⟨c0, c1, c2, c3, cf⟩ := F.out.cells
      go_wp2_with fail
      go_ret
      exact ⟨rfl, HB.out⟩
    · have HOp := HOp0
      have f0 := cmpB (b := false) HOp.out [110] rfl
      have f1 := cmpB (b := false) HOp.out [118] rfl
      have f2 := cmpB (b := false) HOp.out [101] rfl
      have f3 := cmpB (b := false) HOp.out [117, 45] rfl
      have f4 := cmpB (b := false) HOp.out [117, 43] rfl
      have f5 := cmpB (b := false) HOp.out [33] rfl
      have f6 := cmpB (b := false) HOp.out [126] rfl
      have f7 := cmpB (b := false) HOp.out [43, 43, 118] rfl
      have f8 := cmpB (b := false) HOp.out [45, 45, 118] rfl
      have f9 := cmpB (b := false) HOp.out [118, 43, 43] rfl
      have f10 := cmpB (b := false) HOp.out [118, 45, 45] rfl
      have f11 := cmpB (b := false) HOp.out [63] rfl
      have f12 := cmpB (b := false) HOp.out [42] rfl
      have f13 := cmpB (b := false) HOp.out [47] rfl
      have f14 := cmpB (b := false) HOp.out [37] rfl
      have f15 := cmpB (b := false) HOp.out [43] rfl
      have f16 := cmpB (b := false) HOp.out [45] rfl
      have f17 := cmpB (b := false) HOp.out [60, 60] rfl
      have f18 := cmpB (b := false) HOp.out [62, 62] rfl
      have f19 := cmpB (b := false) HOp.out [60] rfl
      have f20 := cmpB (b := false) HOp.out [60, 61] rfl
      have f21 := cmpB (b := false) HOp.out [62] rfl
      have f22 := cmpB (b := false) HOp.out [62, 61] rfl
      have f23 := cmpB (b := false) HOp.out [61, 61] rfl
      have f24 := cmpB (b := true) HOp.out [33, 61] rfl
      clear h0
      go_enter Tryz.func40, Tryz.ntmps40
      obtain ⟨c0, c1, c2, c3, cf⟩ := F.out.cells
      go_wp2_with fail
      go_ret
      exact ⟨rfl, HB.out⟩
    · have HOp := HOp0
      have f0 := cmpB (b := false) HOp.out [110] rfl
      have f1 := cmpB (b := false) HOp.out [118] rfl
      have f2 := cmpB (b := false) HOp.out [101] rfl
      have f3 := cmpB (b := false) HOp.out [117, 45] rfl
      have f4 := cmpB (b := false) HOp.out [117, 43] rfl
      have f5 := cmpB (b := false) HOp.out [33] rfl
      have f6 := cmpB (b := false) HOp.out [126] rfl
      have f7 := cmpB (b := false) HOp.out [43, 43, 118] rfl
      have f8 := cmpB (b := false) HOp.out [45, 45, 118] rfl
      have f9 := cmpB (b := false) HOp.out [118, 43, 43] rfl
      have f10 := cmpB (b := false) HOp.out [118, 45, 45] rfl
      have f11 := cmpB (b := false) HOp.out [63] rfl
      have f12 := cmpB (b := false) HOp.out [42] rfl
      have f13 := cmpB (b := false) HOp.out [47] rfl
      have f14 := cmpB (b := false) HOp.out [37] rfl
      have f15 := cmpB (b := false) HOp.out [43] rfl
      have f16 := cmpB (b := false) HOp.out [45] rfl
      have f17 := cmpB (b := false) HOp.out [60, 60] rfl
      have f18 := cmpB (b := false) HOp.out [62, 62] rfl
      have f19 := cmpB (b := false) HOp.out [60] rfl
      have f20 := cmpB (b := false) HOp.out [60, 61] rfl
      have f21 := cmpB (b := false) HOp.out [62] rfl
      have f22 := cmpB (b := false) HOp.out [62, 61] rfl
      have f23 := cmpB (b := false) HOp.out [61, 61] rfl
      have f24 := cmpB (b := false) HOp.out [33, 61] rfl
      have f25 := cmpB (b := true) HOp.out [38] rfl
      clear h0
      go_enter Tryz.func40, Tryz.ntmps40
      obtain ⟨c0, c1, c2, c3, cf⟩ := F.out.cells
      go_wp2_with fail
      go_ret
      exact ⟨rfl, HB.out⟩
    · have HOp := HOp0
      have f0 := cmpB (b := false) HOp.out [110] rfl
      have f1 := cmpB (b := false) HOp.out [118] rfl
      have f2 := cmpB (b := false) HOp.out [101] rfl
      have f3 := cmpB (b := false) HOp.out [117, 45] rfl
      have f4 := cmpB (b := false) HOp.out [117, 43] rfl
      have f5 := cmpB (b := false) HOp.out [33] rfl
      have f6 := cmpB (b := false) HOp.out [126] rfl
      have f7 := cmpB (b := false) HOp.out [43, 43, 118] rfl
      have f8 := cmpB (b := false) HOp.out [45, 45, 118] rfl
      have f9 := cmpB (b := false) HOp.out [118, 43, 43] rfl
      have f10 := cmpB (b := false) HOp.out [118, 45, 45] rfl
      have f11 := cmpB (b := false) HOp.out [63] rfl
      have f12 := cmpB (b := false) HOp.out [42] rfl
      have f13 := cmpB (b := false) HOp.out [47] rfl
      have f14 := cmpB (b := false) HOp.out [37] rfl
      have f15 := cmpB (b := false) HOp.out [43] rfl
      have f16 := cmpB (b := false) HOp.out [45] rfl
      have f17 := cmpB (b := false) HOp.out [60, 60] rfl
      have f18 := cmpB (b := false) HOp.out [62, 62] rfl
      have f19 := cmpB (b := false) HOp.out [60] rfl
      have f20 := cmpB (b := false) HOp.out [60, 61] rfl
      have f21 := cmpB (b := false) HOp.out [62] rfl
      have f22 := cmpB (b := false) HOp.out [62, 61] rfl
      have f23 := cmpB (b := false) HOp.out [61, 61] rfl
      have f24 := cmpB (b := false) HOp.out [33, 61] rfl
      have f25 := cmpB (b := false) HOp.out [38] rfl
      have f26 := cmpB (b := true) HOp.out [94] rfl
      clear h0
      go_enter Tryz.func40, Tryz.ntmps40
      obtain ⟨c0, c1, c2, c3, cf⟩ := F.out.cells
      go_wp2_with fail
      go_ret
      exact ⟨rfl, HB.out⟩
    · have HOp := HOp0
      have f0 := cmpB (b := false) HOp.out [110] rfl
      have f1 := cmpB (b := false) HOp.out [118] rfl
      have f2 := cmpB (b := false) HOp.out [101] rfl
      have f3 := cmpB (b := false) HOp.out [117, 45] rfl
      have f4 := cmpB (b := false) HOp.out [117, 43] rfl
      have f5 := cmpB (b := false) HOp.out [33] rfl
      have f6 := cmpB (b := false) HOp.out [126] rfl
      have f7 := cmpB (b := false) HOp.out [43, 43, 118] rfl
      have f8 := cmpB (b := false) HOp.out [45, 45, 118] rfl
      have f9 := cmpB (b := false) HOp.out [118, 43, 43] rfl
      have f10 := cmpB (b := false) HOp.out [118, 45, 45] rfl
      have f11 := cmpB (b := false) HOp.out [63] rfl
      have f12 := cmpB (b := false) HOp.out [42] rfl
      have f13 := cmpB (b := false) HOp.out [47] rfl
      have f14 := cmpB (b := false) HOp.out [37] rfl
      have f15 := cmpB (b := false) HOp.out [43] rfl
      have f16 := cmpB (b := false) HOp.out [45] rfl
      have f17 := cmpB (b := false) HOp.out [60, 60] rfl
      have f18 := cmpB (b := false) HOp.out [62, 62] rfl
      have f19 := cmpB (b := false) HOp.out [60] rfl
      have f20 := cmpB (b := false) HOp.out [60, 61] rfl
      have f21 := cmpB (b := false) HOp.out [62] rfl
      have f22 := cmpB (b := false) HOp.out [62, 61] rfl
      have f23 := cmpB (b := false) HOp.out [61, 61] rfl
      have f24 := cmpB (b := false) HOp.out [33, 61] rfl
      have f25 := cmpB (b := false) HOp.out [38] rfl
      have f26 := cmpB (b := false) HOp.out [94] rfl
      have f27 := cmpB (b := true) HOp.out [124] rfl
      clear h0
      go_enter Tryz.func40, Tryz.ntmps40
      obtain ⟨c0, c1, c2, c3, cf⟩ := F.out.cells
      go_wp2_with fail
      go_ret
      exact ⟨rfl, HB.out⟩
    · have HOp := HOp0
      have f0 := cmpB (b := false) HOp.out [110] rfl
      have f1 := cmpB (b := false) HOp.out [118] rfl
      have f2 := cmpB (b := false) HOp.out [101] rfl
      have f3 := cmpB (b := false) HOp.out [117, 45] rfl
      have f4 := cmpB (b := false) HOp.out [117, 43] rfl
      have f5 := cmpB (b := false) HOp.out [33] rfl
      have f6 := cmpB (b := false) HOp.out [126] rfl
      have f7 := cmpB (b := false) HOp.out [43, 43, 118] rfl
      have f8 := cmpB (b := false) HOp.out [45, 45, 118] rfl
      have f9 := cmpB (b := false) HOp.out [118, 43, 43] rfl
      have f10 := cmpB (b := false) HOp.out [118, 45, 45] rfl
      have f11 := cmpB (b := false) HOp.out [63] rfl
      have f12 := cmpB (b := false) HOp.out [42] rfl
      have f13 := cmpB (b := false) HOp.out [47] rfl
      have f14 := cmpB (b := false) HOp.out [37] rfl
      have f15 := cmpB (b := false) HOp.out [43] rfl
      have f16 := cmpB (b := false) HOp.out [45] rfl
      have f17 := cmpB (b := false) HOp.out [60, 60] rfl
      have f18 := cmpB (b := false) HOp.out [62, 62] rfl
      have f19 := cmpB (b := false) HOp.out [60] rfl
      have f20 := cmpB (b := false) HOp.out [60, 61] rfl
      have f21 := cmpB (b := false) HOp.out [62] rfl
      have f22 := cmpB (b := false) HOp.out [62, 61] rfl
      have f23 := cmpB (b := false) HOp.out [61, 61] rfl
      have f24 := cmpB (b := false) HOp.out [33, 61] rfl
      have f25 := cmpB (b := false) HOp.out [38] rfl
      have f26 := cmpB (b := false) HOp.out [94] rfl
      have f27 := cmpB (b := false) HOp.out [124] rfl
      have f28 := cmpB (b := true) HOp.out [38, 38] rfl
      clear h0
      go_enter Tryz.func40, Tryz.ntmps40
      obtain ⟨c0, c1, c2, c3, cf⟩ := F.out.cells
      go_wp2_with fail
      go_ret
      exact ⟨rfl, HB.out⟩
    · have HOp := HOp0
      have f0 := cmpB (b := false) HOp.out [110] rfl
      have f1 := cmpB (b := false) HOp.out [118] rfl
      have f2 := cmpB (b := false) HOp.out [101] rfl
      have f3 := cmpB (b := false) HOp.out [117, 45] rfl
      have f4 := cmpB (b := false) HOp.out [117, 43] rfl
      have f5 := cmpB (b := false) HOp.out [33] rfl
      have f6 := cmpB (b := false) HOp.out [126] rfl
      have f7 := cmpB (b := false) HOp.out [43, 43, 118] rfl
      have f8 := cmpB (b := false) HOp.out [45, 45, 118] rfl
      have f9 := cmpB (b := false) HOp.out [118, 43, 43] rfl
      have f10 := cmpB (b := false) HOp.out [118, 45, 45] rfl
      have f11 := cmpB (b := false) HOp.out [63] rfl
      have f12 := cmpB (b := false) HOp.out [42] rfl
      have f13 := cmpB (b := false) HOp.out [47] rfl
      have f14 := cmpB (b := false) HOp.out [37] rfl
      have f15 := cmpB (b := false) HOp.out [43] rfl
      have f16 := cmpB (b := false) HOp.out [45] rfl
      have f17 := cmpB (b := false) HOp.out [60, 60] rfl
      have f18 := cmpB (b := false) HOp.out [62, 62] rfl
      have f19 := cmpB (b := false) HOp.out [60] rfl
      have f20 := cmpB (b := false) HOp.out [60, 61] rfl
      have f21 := cmpB (b := false) HOp.out [62] rfl
      have f22 := cmpB (b := false) HOp.out [62, 61] rfl
      have f23 := cmpB (b := false) HOp.out [61, 61] rfl
      have f24 := cmpB (b := false) HOp.out [33, 61] rfl
      have f25 := cmpB (b := false) HOp.out [38] rfl
      have f26 := cmpB (b := false) HOp.out [94] rfl
      have f27 := cmpB (b := false) HOp.out [124] rfl
      have f28 := cmpB (b := false) HOp.out [38, 38] rfl
      have f29 := cmpB (b := true) HOp.out [124, 124] rfl
      clear h0
      go_enter Tryz.func40, Tryz.ntmps40
      obtain ⟨c0, c1, c2, c3, cf⟩ := F.out.cells
      go_wp2_with fail
      go_ret
      exact ⟨rfl, HB.out⟩
    · have HOp := HOp0
      have f0 := cmpB (b := false) HOp.out [110] rfl
      have f1 := cmpB (b := false) HOp.out [118] rfl
      have f2 := cmpB (b := false) HOp.out [101] rfl
      have f3 := cmpB (b := false) HOp.out [117, 45] rfl
      have f4 := cmpB (b := false) HOp.out [117, 43] rfl
      have f5 := cmpB (b := false) HOp.out [33] rfl
      have f6 := cmpB (b := false) HOp.out [126] rfl
      have f7 := cmpB (b := false) HOp.out [43, 43, 118] rfl
      have f8 := cmpB (b := false) HOp.out [45, 45, 118] rfl
      have f9 := cmpB (b := false) HOp.out [118, 43, 43] rfl
      have f10 := cmpB (b := false) HOp.out [118, 45, 45] rfl
      have f11 := cmpB (b := false) HOp.out [63] rfl
      have f12 := cmpB (b := false) HOp.out [42] rfl
      have f13 := cmpB (b := false) HOp.out [47] rfl
      have f14 := cmpB (b := false) HOp.out [37] rfl
      have f15 := cmpB (b := false) HOp.out [43] rfl
      have f16 := cmpB (b := false) HOp.out [45] rfl
      have f17 := cmpB (b := false) HOp.out [60, 60] rfl
      have f18 := cmpB (b := false) HOp.out [62, 62] rfl
      have f19 := cmpB (b := false) HOp.out [60] rfl
      have f20 := cmpB (b := false) HOp.out [60, 61] rfl
      have f21 := cmpB (b := false) HOp.out [62] rfl
      have f22 := cmpB (b := false) HOp.out [62, 61] rfl
      have f23 := cmpB (b := false) HOp.out [61, 61] rfl
      have f24 := cmpB (b := false) HOp.out [33, 61] rfl
      have f25 := cmpB (b := false) HOp.out [38] rfl
      have f26 := cmpB (b := false) HOp.out [94] rfl
      have f27 := cmpB (b := false) HOp.out [124] rfl
      have f28 := cmpB (b := false) HOp.out [38, 38] rfl
      have f29 := cmpB (b := false) HOp.out [124, 124] rfl
      have f30 := cmpB (b := true) HOp.out [44] rfl
      clear h0
      go_enter Tryz.func40, Tryz.ntmps40
      obtain ⟨c0, c1, c2, c3, cf⟩ := F.out.cells
      go_wp2_with fail
      go_ret
      exact ⟨rfl, HB.out⟩
    · have HOp := HOp0
      have f0 := cmpB (b := false) HOp.out [110] rfl
      have f1 := cmpB (b := false) HOp.out [118] rfl
      have f2 := cmpB (b := false) HOp.out [101] rfl
      have f3 := cmpB (b := false) HOp.out [117, 45] rfl
      have f4 := cmpB (b := false) HOp.out [117, 43] rfl
      have f5 := cmpB (b := false) HOp.out [33] rfl
      have f6 := cmpB (b := false) HOp.out [126] rfl
      have f7 := cmpB (b := false) HOp.out [43, 43, 118] rfl
      have f8 := cmpB (b := false) HOp.out [45, 45, 118] rfl
      have f9 := cmpB (b := false) HOp.out [118, 43, 43] rfl
      have f10 := cmpB (b := false) HOp.out [118, 45, 45] rfl
      have f11 := cmpB (b := false) HOp.out [63] rfl
      have f12 := cmpB (b := false) HOp.out [42] rfl
      have f13 := cmpB (b := false) HOp.out [47] rfl
      have f14 := cmpB (b := false) HOp.out [37] rfl
      have f15 := cmpB (b := false) HOp.out [43] rfl
      have f16 := cmpB (b := false) HOp.out [45] rfl
      have f17 := cmpB (b := false) HOp.out [60, 60] rfl
      have f18 := cmpB (b := false) HOp.out [62, 62] rfl
      have f19 := cmpB (b := false) HOp.out [60] rfl
      have f20 := cmpB (b := false) HOp.out [60, 61] rfl
      have f21 := cmpB (b := false) HOp.out [62] rfl
      have f22 := cmpB (b := false) HOp.out [62, 61] rfl
      have f23 := cmpB (b := false) HOp.out [61, 61] rfl
      have f24 := cmpB (b := false) HOp.out [33, 61] rfl
      have f25 := cmpB (b := false) HOp.out [38] rfl
      have f26 := cmpB (b := false) HOp.out [94] rfl
      have f27 := cmpB (b := false) HOp.out [124] rfl
      have f28 := cmpB (b := false) HOp.out [38, 38] rfl
      have f29 := cmpB (b := false) HOp.out [124, 124] rfl
      have f30 := cmpB (b := false) HOp.out [44] rfl
      have f31 := cmpB (b := true) HOp.out [61] rfl
      clear h0
      go_enter Tryz.func40, Tryz.ntmps40
      obtain ⟨c0, c1, c2, c3, cf⟩ := F.out.cells
      go_wp2_with fail
      go_ret
      exact ⟨rfl, HB.out⟩
    · have HOp := HOp0
      have f0 := cmpB (b := false) HOp.out [110] rfl
      have f1 := cmpB (b := false) HOp.out [118] rfl
      have f2 := cmpB (b := false) HOp.out [101] rfl
      have f3 := cmpB (b := false) HOp.out [117, 45] rfl
      have f4 := cmpB (b := false) HOp.out [117, 43] rfl
      have f5 := cmpB (b := false) HOp.out [33] rfl
      have f6 := cmpB (b := false) HOp.out [126] rfl
      have f7 := cmpB (b := false) HOp.out [43, 43, 118] rfl
      have f8 := cmpB (b := false) HOp.out [45, 45, 118] rfl
      have f9 := cmpB (b := false) HOp.out [118, 43, 43] rfl
      have f10 := cmpB (b := false) HOp.out [118, 45, 45] rfl
      have f11 := cmpB (b := false) HOp.out [63] rfl
      have f12 := cmpB (b := false) HOp.out [42] rfl
      have f13 := cmpB (b := false) HOp.out [47] rfl
      have f14 := cmpB (b := false) HOp.out [37] rfl
      have f15 := cmpB (b := false) HOp.out [43] rfl
      have f16 := cmpB (b := false) HOp.out [45] rfl
      have f17 := cmpB (b := false) HOp.out [60, 60] rfl
      have f18 := cmpB (b := false) HOp.out [62, 62] rfl
      have f19 := cmpB (b := false) HOp.out [60] rfl
      have f20 := cmpB (b := false) HOp.out [60, 61] rfl
      have f21 := cmpB (b := false) HOp.out [62] rfl
      have f22 := cmpB (b := false) HOp.out [62, 61] rfl
      have f23 := cmpB (b := false) HOp.out [61, 61] rfl
      have f24 := cmpB (b := false) HOp.out [33, 61] rfl
      have f25 := cmpB (b := false) HOp.out [38] rfl
      have f26 := cmpB (b := false) HOp.out [94] rfl
      have f27 := cmpB (b := false) HOp.out [124] rfl
      have f28 := cmpB (b := false) HOp.out [38, 38] rfl
      have f29 := cmpB (b := false) HOp.out [124, 124] rfl
      have f30 := cmpB (b := false) HOp.out [44] rfl
      have f31 := cmpB (b := false) HOp.out [61] rfl
      have f32 := cmpB (b := true) HOp.out [42, 61] rfl
      clear h0
      go_enter Tryz.func40, Tryz.ntmps40
      obtain ⟨c0, c1, c2, c3, cf⟩ := F.out.cells
      go_wp2_with fail
      go_ret
      exact ⟨rfl, HB.out⟩
    · have HOp := HOp0
      have f0 := cmpB (b := false) HOp.out [110] rfl
      have f1 := cmpB (b := false) HOp.out [118] rfl
      have f2 := cmpB (b := false) HOp.out [101] rfl
      have f3 := cmpB (b := false) HOp.out [117, 45] rfl
      have f4 := cmpB (b := false) HOp.out [117, 43] rfl
      have f5 := cmpB (b := false) HOp.out [33] rfl
      have f6 := cmpB (b := false) HOp.out [126] rfl
      have f7 := cmpB (b := false) HOp.out [43, 43, 118] rfl
      have f8 := cmpB (b := false) HOp.out [45, 45, 118] rfl
      have f9 := cmpB (b := false) HOp.out [118, 43, 43] rfl
      have f10 := cmpB (b := false) HOp.out [118, 45, 45] rfl
      have f11 := cmpB (b := false) HOp.out [63] rfl
      have f12 := cmpB (b := false) HOp.out [42] rfl
      have f13 := cmpB (b := false) HOp.out [47] rfl
      have f14 := cmpB (b := false) HOp.out [37] rfl
      have f15 := cmpB (b := false) HOp.out [43] rfl
      have f16 := cmpB (b := false) HOp.out [45] rfl
      have f17 := cmpB (b := false) HOp.out [60, 60] rfl
      have f18 := cmpB (b := false) HOp.out [62, 62] rfl
      have f19 := cmpB (b := false) HOp.out [60] rfl
      have f20 := cmpB (b := false) HOp.out [60, 61] rfl
      have f21 := cmpB (b := false) HOp.out [62] rfl
      have f22 := cmpB (b := false) HOp.out [62, 61] rfl
      have f23 := cmpB (b := false) HOp.out [61, 61] rfl
      have f24 := cmpB (b := false) HOp.out [33, 61] rfl
      have f25 := cmpB (b := false) HOp.out [38] rfl
      have f26 := cmpB (b := false) HOp.out [94] rfl
      have f27 := cmpB (b := false) HOp.out [124] rfl
      have f28 := cmpB (b := false) HOp.out [38, 38] rfl
      have f29 := cmpB (b := false) HOp.out [124, 124] rfl
      have f30 := cmpB (b := false) HOp.out [44] rfl
      have f31 := cmpB (b := false) HOp.out [61] rfl
      have f32 := cmpB (b := false) HOp.out [42, 61] rfl
      have f33 := cmpB (b := true) HOp.out [47, 61] rfl
      clear h0
      go_enter Tryz.func40, Tryz.ntmps40
      obtain ⟨c0, c1, c2, c3, cf⟩ := F.out.cells
      go_wp2_with fail
      go_ret
      exact ⟨rfl, HB.out⟩
    · have HOp := HOp0
      have f0 := cmpB (b := false) HOp.out [110] rfl
      have f1 := cmpB (b := false) HOp.out [118] rfl
      have f2 := cmpB (b := false) HOp.out [101] rfl
      have f3 := cmpB (b := false) HOp.out [117, 45] rfl
      have f4 := cmpB (b := false) HOp.out [117, 43] rfl
      have f5 := cmpB (b := false) HOp.out [33] rfl
      have f6 := cmpB (b := false) HOp.out [126] rfl
      have f7 := cmpB (b := false) HOp.out [43, 43, 118] rfl
      have f8 := cmpB (b := false) HOp.out [45, 45, 118] rfl
      have f9 := cmpB (b := false) HOp.out [118, 43, 43] rfl
      have f10 := cmpB (b := false) HOp.out [118, 45, 45] rfl
      have f11 := cmpB (b := false) HOp.out [63] rfl
      have f12 := cmpB (b := false) HOp.out [42] rfl
      have f13 := cmpB (b := false) HOp.out [47] rfl
      have f14 := cmpB (b := false) HOp.out [37] rfl
      have f15 := cmpB (b := false) HOp.out [43] rfl
      have f16 := cmpB (b := false) HOp.out [45] rfl
      have f17 := cmpB (b := false) HOp.out [60, 60] rfl
      have f18 := cmpB (b := false) HOp.out [62, 62] rfl
      have f19 := cmpB (b := false) HOp.out [60] rfl
      have f20 := cmpB (b := false) HOp.out [60, 61] rfl
      have f21 := cmpB (b := false) HOp.out [62] rfl
      have f22 := cmpB (b := false) HOp.out [62, 61] rfl
      have f23 := cmpB (b := false) HOp.out [61, 61] rfl
      have f24 := cmpB (b := false) HOp.out [33, 61] rfl
      have f25 := cmpB (b := false) HOp.out [38] rfl
      have f26 := cmpB (b := false) HOp.out [94] rfl
      have f27 := cmpB (b := false) HOp.out [124] rfl
      have f28 := cmpB (b := false) HOp.out [38, 38] rfl
      have f29 := cmpB (b := false) HOp.out [124, 124] rfl
      have f30 := cmpB (b := false) HOp.out [44] rfl
      have f31 := cmpB (b := false) HOp.out [61] rfl
      have f32 := cmpB (b := false) HOp.out [42, 61] rfl
      have f33 := cmpB (b := false) HOp.out [47, 61] rfl
      have f34 := cmpB (b := true) HOp.out [37, 61] rfl
      clear h0
      go_enter Tryz.func40, Tryz.ntmps40
      obtain ⟨c0, c1, c2, c3, cf⟩ := F.out.cells
      go_wp2_with fail
      go_ret
      exact ⟨rfl, HB.out⟩
    · have HOp := HOp0
      have f0 := cmpB (b := false) HOp.out [110] rfl
      have f1 := cmpB (b := false) HOp.out [118] rfl
      have f2 := cmpB (b := false) HOp.out [101] rfl
      have f3 := cmpB (b := false) HOp.out [117, 45] rfl
      have f4 := cmpB (b := false) HOp.out [117, 43] rfl
      have f5 := cmpB (b := false) HOp.out [33] rfl
      have f6 := cmpB (b := false) HOp.out [126] rfl
      have f7 := cmpB (b := false) HOp.out [43, 43, 118] rfl
      have f8 := cmpB (b := false) HOp.out [45, 45, 118] rfl
      have f9 := cmpB (b := false) HOp.out [118, 43, 43] rfl
      have f10 := cmpB (b := false) HOp.out [118, 45, 45] rfl
      have f11 := cmpB (b := false) HOp.out [63] rfl
      have f12 := cmpB (b := false) HOp.out [42] rfl
      have f13 := cmpB (b := false) HOp.out [47] rfl
      have f14 := cmpB (b := false) HOp.out [37] rfl
      have f15 := cmpB (b := false) HOp.out [43] rfl
      have f16 := cmpB (b := false) HOp.out [45] rfl
      have f17 := cmpB (b := false) HOp.out [60, 60] rfl
      have f18 := cmpB (b := false) HOp.out [62, 62] rfl
      have f19 := cmpB (b := false) HOp.out [60] rfl
      have f20 := cmpB (b := false) HOp.out [60, 61] rfl
      have f21 := cmpB (b := false) HOp.out [62] rfl
      have f22 := cmpB (b := false) HOp.out [62, 61] rfl
      have f23 := cmpB (b := false) HOp.out [61, 61] rfl
      have f24 := cmpB (b := false) HOp.out [33, 61] rfl
      have f25 := cmpB (b := false) HOp.out [38] rfl
      have f26 := cmpB (b := false) HOp.out [94] rfl
      have f27 := cmpB (b := false) HOp.out [124] rfl
      have f28 := cmpB (b := false) HOp.out [38, 38] rfl
      have f29 := cmpB (b := false) HOp.out [124, 124] rfl
      have f30 := cmpB (b := false) HOp.out [44] rfl
      have f31 := cmpB (b := false) HOp.out [61] rfl
      have f32 := cmpB (b := false) HOp.out [42, 61] rfl
      have f33 := cmpB (b := false) HOp.out [47, 61] rfl
      have f34 := cmpB (b := false) HOp.out [37, 61] rfl
      have f35 := cmpB (b := true) HOp.out [43, 61] rfl
      clear h0
      go_enter Tryz.func40, Tryz.ntmps40
      obtain ⟨c0, c1, c2, c3, cf⟩ := F.out.cells
      go_wp2_with fail
      go_ret
      exact ⟨rfl, HB.out⟩
    · have HOp := HOp0
      have f0 := cmpB (b := false) HOp.out [110] rfl
      have f1 := cmpB (b := false) HOp.out [118] rfl
      have f2 := cmpB (b := false) HOp.out [101] rfl
      have f3 := cmpB (b := false) HOp.out [117, 45] rfl
      have f4 := cmpB (b := false) HOp.out [117, 43] rfl
      have f5 := cmpB (b := false) HOp.out [33] rfl
      have f6 := cmpB (b := false) HOp.out [126] rfl
      have f7 := cmpB (b := false) HOp.out [43, 43, 118] rfl
      have f8 := cmpB (b := false) HOp.out [45, 45, 118] rfl
      have f9 := cmpB (b := false) HOp.out [118, 43, 43] rfl
      have f10 := cmpB (b := false) HOp.out [118, 45, 45] rfl
      have f11 := cmpB (b := false) HOp.out [63] rfl
      have f12 := cmpB (b := false) HOp.out [42] rfl
      have f13 := cmpB (b := false) HOp.out [47] rfl
      have f14 := cmpB (b := false) HOp.out [37] rfl
      have f15 := cmpB (b := false) HOp.out [43] rfl
      have f16 := cmpB (b := false) HOp.out [45] rfl
      have f17 := cmpB (b := false) HOp.out [60, 60] rfl
      have f18 := cmpB (b := false) HOp.out [62, 62] rfl
      have f19 := cmpB (b := false) HOp.out [60] rfl
      have f20 := cmpB (b := false) HOp.out [60, 61] rfl
      have f21 := cmpB (b := false) HOp.out [62] rfl
      have f22 := cmpB (b := false) HOp.out [62, 61] rfl
      have f23 := cmpB (b := false) HOp.out [61, 61] rfl
      have f24 := cmpB (b := false) HOp.out [33, 61] rfl
      have f25 := cmpB (b := false) HOp.out [38] rfl
      have f26 := cmpB (b := false) HOp.out [94] rfl
      have f27 := cmpB (b := false) HOp.out [124] rfl
      have f28 := cmpB (b := false) HOp.out [38, 38] rfl
      have f29 := cmpB (b := false) HOp.out [124, 124] rfl
      have f30 := cmpB (b := false) HOp.out [44] rfl
      have f31 := cmpB (b := false) HOp.out [61] rfl
      have f32 := cmpB (b := false) HOp.out [42, 61] rfl
      have f33 := cmpB (b := false) HOp.out [47, 61] rfl
      have f34 := cmpB (b := false) HOp.out [37, 61] rfl
      have f35 := cmpB (b := false) HOp.out [43, 61] rfl
      have f36 := cmpB (b := true) HOp.out [45, 61] rfl
      clear h0
      go_enter Tryz.func40, Tryz.ntmps40
      obtain ⟨c0, c1, c2, c3, cf⟩ := F.out.cells
      go_wp2_with fail
      go_ret
      exact ⟨rfl, HB.out⟩
    · have HOp := HOp0
      have f0 := cmpB (b := false) HOp.out [110] rfl
      have f1 := cmpB (b := false) HOp.out [118] rfl
      have f2 := cmpB (b := false) HOp.out [101] rfl
      have f3 := cmpB (b := false) HOp.out [117, 45] rfl
      have f4 := cmpB (b := false) HOp.out [117, 43] rfl
      have f5 := cmpB (b := false) HOp.out [33] rfl
      have f6 := cmpB (b := false) HOp.out [126] rfl
      have f7 := cmpB (b := false) HOp.out [43, 43, 118] rfl
      have f8 := cmpB (b := false) HOp.out [45, 45, 118] rfl
      have f9 := cmpB (b := false) HOp.out [118, 43, 43] rfl
      have f10 := cmpB (b := false) HOp.out [118, 45, 45] rfl
      have f11 := cmpB (b := false) HOp.out [63] rfl
      have f12 := cmpB (b := false) HOp.out [42] rfl
      have f13 := cmpB (b := false) HOp.out [47] rfl
      have f14 := cmpB (b := false) HOp.out [37] rfl
      have f15 := cmpB (b := false) HOp.out [43] rfl
      have f16 := cmpB (b := false) HOp.out [45] rfl
      have f17 := cmpB (b := false) HOp.out [60, 60] rfl
      have f18 := cmpB (b := false) HOp.out [62, 62] rfl
      have f19 := cmpB (b := false) HOp.out [60] rfl
      have f20 := cmpB (b := false) HOp.out [60, 61] rfl
      have f21 := cmpB (b := false) HOp.out [62] rfl
      have f22 := cmpB (b := false) HOp.out [62, 61] rfl
      have f23 := cmpB (b := false) HOp.out [61, 61] rfl
      have f24 := cmpB (b := false) HOp.out [33, 61] rfl
      have f25 := cmpB (b := false) HOp.out [38] rfl
      have f26 := cmpB (b := false) HOp.out [94] rfl
      have f27 := cmpB (b := false) HOp.out [124] rfl
      have f28 := cmpB (b := false) HOp.out [38, 38] rfl
      have f29 := cmpB (b := false) HOp.out [124, 124] rfl
      have f30 := cmpB (b := false) HOp.out [44] rfl
      have f31 := cmpB (b := false) HOp.out [61] rfl
      have f32 := cmpB (b := false) HOp.out [42, 61] rfl
      have f33 := cmpB (b := false) HOp.out [47, 61] rfl
      have f34 := cmpB (b := false) HOp.out [37, 61] rfl
      have f35 := cmpB (b := false) HOp.out [43, 61] rfl
      have f36 := cmpB (b := false) HOp.out [45, 61] rfl
      have f37 := cmpB (b := true) HOp.out [60, 60, 61] rfl
      clear h0
      go_enter Tryz.func40, Tryz.ntmps40
      obtain ⟨c0, c1, c2, c3, cf⟩ := F.out.cells
      go_wp2_with fail
      go_ret
      exact ⟨rfl, HB.out⟩
    · have HOp := HOp0
      have f0 := cmpB (b := false) HOp.out [110] rfl
      have f1 := cmpB (b := false) HOp.out [118] rfl
      have f2 := cmpB (b := false) HOp.out [101] rfl
      have f3 := cmpB (b := false) HOp.out [117, 45] rfl
      have f4 := cmpB (b := false) HOp.out [117, 43] rfl
      have f5 := cmpB (b := false) HOp.out [33] rfl
      have f6 := cmpB (b := false) HOp.out [126] rfl
      have f7 := cmpB (b := false) HOp.out [43, 43, 118] rfl
      have f8 := cmpB (b := false) HOp.out [45, 45, 118] rfl
      have f9 := cmpB (b := false) HOp.out [118, 43, 43] rfl
      have f10 := cmpB (b := false) HOp.out [118, 45, 45] rfl
      have f11 := cmpB (b := false) HOp.out [63] rfl
      have f12 := cmpB (b := false) HOp.out [42] rfl
      have f13 := cmpB (b := false) HOp.out [47] rfl
      have f14 := cmpB (b := false) HOp.out [37] rfl
      have f15 := cmpB (b := false) HOp.out [43] rfl
      have f16 := cmpB (b := false) HOp.out [45] rfl
      have f17 := cmpB (b := false) HOp.out [60, 60] rfl
      have f18 := cmpB (b := false) HOp.out [62, 62] rfl
      have f19 := cmpB (b := false) HOp.out [60] rfl
      have f20 := cmpB (b := false) HOp.out [60, 61] rfl
      have f21 := cmpB (b := false) HOp.out [62] rfl
      have f22 := cmpB (b := false) HOp.out [62, 61] rfl
      have f23 := cmpB (b := false) HOp.out [61, 61] rfl
      have f24 := cmpB (b := false) HOp.out [33, 61] rfl
      have f25 := cmpB (b := false) HOp.out [38] rfl
      have f26 := cmpB (b := false) HOp.out [94] rfl
      have f27 := cmpB (b := false) HOp.out [124] rfl
      have f28 := cmpB (b := false) HOp.out [38, 38] rfl
      have f29 := cmpB (b := false) HOp.out [124, 124] rfl
      have f30 := cmpB (b := false) HOp.out [44] rfl
      have f31 := cmpB (b := false) HOp.out [61] rfl
      have f32 := cmpB (b := false) HOp.out [42, 61] rfl
      have f33 := cmpB (b := false) HOp.out [47, 61] rfl
      have f34 := cmpB (b := false) HOp.out [37, 61] rfl
      have f35 := cmpB (b := false) HOp.out [43, 61] rfl
      have f36 := cmpB (b := false) HOp.out [45, 61] rfl
      have f37 := cmpB (b := false) HOp.out [60, 60, 61] rfl
      have f38 := cmpB (b := true) HOp.out [62, 62, 61] rfl
      clear h0
      go_enter Tryz.func40, Tryz.ntmps40
      obtain ⟨c0, c1, c2, c3, cf⟩ := F.out.cells
      go_wp2_with fail
      go_ret
      exact ⟨rfl, HB.out⟩
    · have HOp := HOp0
      have f0 := cmpB (b := false) HOp.out [110] rfl
      have f1 := cmpB (b := false) HOp.out [118] rfl
      have f2 := cmpB (b := false) HOp.out [101] rfl
      have f3 := cmpB (b := false) HOp.out [117, 45] rfl
      have f4 := cmpB (b := false) HOp.out [117, 43] rfl
      have f5 := cmpB (b := false) HOp.out [33] rfl
      have f6 := cmpB (b := false) HOp.out [126] rfl
      have f7 := cmpB (b := false) HOp.out [43, 43, 118] rfl
      have f8 := cmpB (b := false) HOp.out [45, 45, 118] rfl
      have f9 := cmpB (b := false) HOp.out [118, 43, 43] rfl
      have f10 := cmpB (b := false) HOp.out [118, 45, 45] rfl
      have f11 := cmpB (b := false) HOp.out [63] rfl
      have f12 := cmpB (b := false) HOp.out [42] rfl
      have f13 := cmpB (b := false) HOp.out [47] rfl
      have f14 := cmpB (b := false) HOp.out [37] rfl
      have f15 := cmpB (b := false) HOp.out [43] rfl
      have f16 := cmpB (b := false) HOp.out [45] rfl
      have f17 := cmpB (b := false) HOp.out [60, 60] rfl
      have f18 := cmpB (b := false) HOp.out [62, 62] rfl
      have f19 := cmpB (b := false) HOp.out [60] rfl
      have f20 := cmpB (b := false) HOp.out [60, 61] rfl
      have f21 := cmpB (b := false) HOp.out [62] rfl
      have f22 := cmpB (b := false) HOp.out [62, 61] rfl
      have f23 := cmpB (b := false) HOp.out [61, 61] rfl
      have f24 := cmpB (b := false) HOp.out [33, 61] rfl
      have f25 := cmpB (b := false) HOp.out [38] rfl
      have f26 := cmpB (b := false) HOp.out [94] rfl
      have f27 := cmpB (b := false) HOp.out [124] rfl
      have f28 := cmpB (b := false) HOp.out [38, 38] rfl
      have f29 := cmpB (b := false) HOp.out [124, 124] rfl
      have f30 := cmpB (b := false) HOp.out [44] rfl
      have f31 := cmpB (b := false) HOp.out [61] rfl
      have f32 := cmpB (b := false) HOp.out [42, 61] rfl
      have f33 := cmpB (b := false) HOp.out [47, 61] rfl
      have f34 := cmpB (b := false) HOp.out [37, 61] rfl
      have f35 := cmpB (b := false) HOp.out [43, 61] rfl
      have f36 := cmpB (b := false) HOp.out [45, 61] rfl
      have f37 := cmpB (b := false) HOp.out [60, 60, 61] rfl
      have f38 := cmpB (b := false) HOp.out [62, 62, 61] rfl
      have f39 := cmpB (b := true) HOp.out [38, 61] rfl
      clear h0
      go_enter Tryz.func40, Tryz.ntmps40
      obtain ⟨c0, c1, c2, c3, cf⟩ := F.out.cells
      go_wp2_with fail
      go_ret
      exact ⟨rfl, HB.out⟩
    · have HOp := HOp0
      have f0 := cmpB (b := false) HOp.out [110] rfl
      have f1 := cmpB (b := false) HOp.out [118] rfl
      have f2 := cmpB (b := false) HOp.out [101] rfl
      have f3 := cmpB (b := false) HOp.out [117, 45] rfl
      have f4 := cmpB (b := false) HOp.out [117, 43] rfl
      have f5 := cmpB (b := false) HOp.out [33] rfl
      have f6 := cmpB (b := false) HOp.out [126] rfl
      have f7 := cmpB (b := false) HOp.out [43, 43, 118] rfl
      have f8 := cmpB (b := false) HOp.out [45, 45, 118] rfl
      have f9 := cmpB (b := false) HOp.out [118, 43, 43] rfl
      have f10 := cmpB (b := false) HOp.out [118, 45, 45] rfl
      have f11 := cmpB (b := false) HOp.out [63] rfl
      have f12 := cmpB (b := false) HOp.out [42] rfl
      have f13 := cmpB (b := false) HOp.out [47] rfl
      have f14 := cmpB (b := false) HOp.out [37] rfl
      have f15 := cmpB (b := false) HOp.out [43] rfl
      have f16 := cmpB (b := false) HOp.out [45] rfl
      have f17 := cmpB (b := false) HOp.out [60, 60] rfl
      have f18 := cmpB (b := false) HOp.out [62, 62] rfl
      have f19 := cmpB (b := false) HOp.out [60] rfl
      have f20 := cmpB (b := false) HOp.out [60, 61] rfl
      have f21 := cmpB (b := false) HOp.out [62] rfl
      have f22 := cmpB (b := false) HOp.out [62, 61] rfl
      have f23 := cmpB (b := false) HOp.out [61, 61] rfl
      have f24 := cmpB (b := false) HOp.out [33, 61] rfl
      have f25 := cmpB (b := false) HOp.out [38] rfl
      have f26 := cmpB (b := false) HOp.out [94] rfl
      have f27 := cmpB (b := false) HOp.out [124] rfl
      have f28 := cmpB (b := false) HOp.out [38, 38] rfl
      have f29 := cmpB (b := false) HOp.out [124, 124] rfl
      have f30 := cmpB (b := false) HOp.out [44] rfl
      have f31 := cmpB (b := false) HOp.out [61] rfl
      have f32 := cmpB (b := false) HOp.out [42, 61] rfl
      have f33 := cmpB (b := false) HOp.out [47, 61] rfl
      have f34 := cmpB (b := false) HOp.out [37, 61] rfl
      have f35 := cmpB (b := false) HOp.out [43, 61] rfl
      have f36 := cmpB (b := false) HOp.out [45, 61] rfl
      have f37 := cmpB (b := false) HOp.out [60, 60, 61] rfl
      have f38 := cmpB (b := false) HOp.out [62, 62, 61] rfl
      have f39 := cmpB (b := false) HOp.out [38, 61] rfl
      have f40 := cmpB (b := true) HOp.out [94, 61] rfl
      clear h0
      go_enter Tryz.func40, Tryz.ntmps40
      obtain ⟨c0, c1, c2, c3, cf⟩ := F.out.cells
      go_wp2_with fail
      go_ret
      exact ⟨rfl, HB.out⟩
    · have HOp := HOp0
      have f0 := cmpB (b := false) HOp.out [110] rfl
      have f1 := cmpB (b := false) HOp.out [118] rfl
      have f2 := cmpB (b := false) HOp.out [101] rfl
      have f3 := cmpB (b := false) HOp.out [117, 45] rfl
      have f4 := cmpB (b := false) HOp.out [117, 43] rfl
      have f5 := cmpB (b := false) HOp.out [33] rfl
      have f6 := cmpB (b := false) HOp.out [126] rfl
      have f7 := cmpB (b := false) HOp.out [43, 43, 118] rfl
      have f8 := cmpB (b := false) HOp.out [45, 45, 118] rfl
      have f9 := cmpB (b := false) HOp.out [118, 43, 43] rfl
      have f10 := cmpB (b := false) HOp.out [118, 45, 45] rfl
      have f11 := cmpB (b := false) HOp.out [63] rfl
      have f12 := cmpB (b := false) HOp.out [42] rfl
      have f13 := cmpB (b := false) HOp.out [47] rfl
      have f14 := cmpB (b := false) HOp.out [37] rfl
      have f15 := cmpB (b := false) HOp.out [43] rfl
      have f16 := cmpB (b := false) HOp.out [45] rfl
      have f17 := cmpB (b := false) HOp.out [60, 60] rfl
      have f18 := cmpB (b := false) HOp.out [62, 62] rfl
      have f19 := cmpB (b := false) HOp.out [60] rfl
      have f20 := cmpB (b := false) HOp.out [60, 61] rfl
      have f21 := cmpB (b := false) HOp.out [62] rfl
      have f22 := cmpB (b := false) HOp.out [62, 61] rfl
      have f23 := cmpB (b := false) HOp.out [61, 61] rfl
      have f24 := cmpB (b := false) HOp.out [33, 61] rfl
      have f25 := cmpB (b := false) HOp.out [38] rfl
      have f26 := cmpB (b := false) HOp.out [94] rfl
      have f27 := cmpB (b := false) HOp.out [124] rfl
      have f28 := cmpB (b := false) HOp.out [38, 38] rfl
      have f29 := cmpB (b := false) HOp.out [124, 124] rfl
      have f30 := cmpB (b := false) HOp.out [44] rfl
      have f31 := cmpB (b := false) HOp.out [61] rfl
      have f32 := cmpB (b := false) HOp.out [42, 61] rfl
      have f33 := cmpB (b := false) HOp.out [47, 61] rfl
      have f34 := cmpB (b := false) HOp.out [37, 61] rfl
      have f35 := cmpB (b := false) HOp.out [43, 61] rfl
      have f36 := cmpB (b := false) HOp.out [45, 61] rfl
      have f37 := cmpB (b := false) HOp.out [60, 60, 61] rfl
      have f38 := cmpB (b := false) HOp.out [62, 62, 61] rfl
      have f39 := cmpB (b := false) HOp.out [38, 61] rfl
      have f40 := cmpB (b := false) HOp.out [94, 61] rfl
      have f41 := cmpB (b := true) HOp.out [124, 61] rfl
      clear h0
      go_enter Tryz.func40, Tryz.ntmps40
      obtain ⟨c0, c1, c2, c3, cf⟩ := F.out.cells
      go_wp2_with fail
      go_ret
      exact ⟨rfl, HB.out⟩
  · have HNe := Lib.hid hne
    have f0 : ((toB op).toList == [110]) = false := by rw [toB_toList]; exact HNe.out [110] (by simp)
    have f1 : ((toB op).toList == [118]) = false := by rw [toB_toList]; exact HNe.out [118] (by simp)
    have f2 : ((toB op).toList == [101]) = false := by rw [toB_toList]; exact HNe.out [101] (by simp)
    have f3 : ((toB op).toList == [117, 45]) = false := by rw [toB_toList]; exact HNe.out [117, 45] (by simp)
    have f4 : ((toB op).toList == [117, 43]) = false := by rw [toB_toList]; exact HNe.out [117, 43] (by simp)
    have f5 : ((toB op).toList == [33]) = false := by rw [toB_toList]; exact HNe.out [33] (by simp)
    have f6 : ((toB op).toList == [126]) = false := by rw [toB_toList]; exact HNe.out [126] (by simp)
    have f7 : ((toB op).toList == [43, 43, 118]) = false := by rw [toB_toList]; exact HNe.out [43, 43, 118] (by simp)
    have f8 : ((toB op).toList == [45, 45, 118]) = false := by rw [toB_toList]; exact HNe.out [45, 45, 118] (by simp)
    have f9 : ((toB op).toList == [118, 43, 43]) = false := by rw [toB_toList]; exact HNe.out [118, 43, 43] (by simp)
    have f10 : ((toB op).toList == [118, 45, 45]) = false := by rw [toB_toList]; exact HNe.out [118, 45, 45] (by simp)
    have f11 : ((toB op).toList == [63]) = false := by rw [toB_toList]; exact HNe.out [63] (by simp)
    have f12 : ((toB op).toList == [42]) = false := by rw [toB_toList]; exact HNe.out [42] (by simp)
    have f13 : ((toB op).toList == [47]) = false := by rw [toB_toList]; exact HNe.out [47] (by simp)
    have f14 : ((toB op).toList == [37]) = false := by rw [toB_toList]; exact HNe.out [37] (by simp)
    have f15 : ((toB op).toList == [43]) = false := by rw [toB_toList]; exact HNe.out [43] (by simp)
    have f16 : ((toB op).toList == [45]) = false := by rw [toB_toList]; exact HNe.out [45] (by simp)
    have f17 : ((toB op).toList == [60, 60]) = false := by rw [toB_toList]; exact HNe.out [60, 60] (by simp)
    have f18 : ((toB op).toList == [62, 62]) = false := by rw [toB_toList]; exact HNe.out [62, 62] (by simp)
    have f19 : ((toB op).toList == [60]) = false := by rw [toB_toList]; exact HNe.out [60] (by simp)
    have f20 : ((toB op).toList == [60, 61]) = false := by rw [toB_toList]; exact HNe.out [60, 61] (by simp)
    have f21 : ((toB op).toList == [62]) = false := by rw [toB_toList]; exact HNe.out [62] (by simp)
    have f22 : ((toB op).toList == [62, 61]) = false := by rw [toB_toList]; exact HNe.out [62, 61] (by simp)
    have f23 : ((toB op).toList == [61, 61]) = false := by rw [toB_toList]; exact HNe.out [61, 61] (by simp)
    have f24 : ((toB op).toList == [33, 61]) = false := by rw [toB_toList]; exact HNe.out [33, 61] (by simp)
    have f25 : ((toB op).toList == [38]) = false := by rw [toB_toList]; exact HNe.out [38] (by simp)
    have f26 : ((toB op).toList == [94]) = false := by rw [toB_toList]; exact HNe.out [94] (by simp)
    have f27 : ((toB op).toList == [124]) = false := by rw [toB_toList]; exact HNe.out [124] (by simp)
    have f28 : ((toB op).toList == [38, 38]) = false := by rw [toB_toList]; exact HNe.out [38, 38] (by simp)
    have f29 : ((toB op).toList == [124, 124]) = false := by rw [toB_toList]; exact HNe.out [124, 124] (by simp)
    have f30 : ((toB op).toList == [44]) = false := by rw [toB_toList]; exact HNe.out [44] (by simp)
    have f31 : ((toB op).toList == [61]) = false := by rw [toB_toList]; exact HNe.out [61] (by simp)
    have f32 : ((toB op).toList == [42, 61]) = false := by rw [toB_toList]; exact HNe.out [42, 61] (by simp)
    have f33 : ((toB op).toList == [47, 61]) = false := by rw [toB_toList]; exact HNe.out [47, 61] (by simp)
    have f34 : ((toB op).toList == [37, 61]) = false := by rw [toB_toList]; exact HNe.out [37, 61] (by simp)
    have f35 : ((toB op).toList == [43, 61]) = false := by rw [toB_toList]; exact HNe.out [43, 61] (by simp)
    have f36 : ((toB op).toList == [45, 61]) = false := by rw [toB_toList]; exact HNe.out [45, 61] (by simp)
    have f37 : ((toB op).toList == [60, 60, 61]) = false := by rw [toB_toList]; exact HNe.out [60, 60, 61] (by simp)
    have f38 : ((toB op).toList == [62, 62, 61]) = false := by rw [toB_toList]; exact HNe.out [62, 62, 61] (by simp)
    have f39 : ((toB op).toList == [38, 61]) = false := by rw [toB_toList]; exact HNe.out [38, 61] (by simp)
    have f40 : ((toB op).toList == [94, 61]) = false := by rw [toB_toList]; exact HNe.out [94, 61] (by simp)
    have f41 : ((toB op).toList == [124, 61]) = false := by rw [toB_toList]; exact HNe.out [124, 61] (by simp)
    clear h0 hne
    go_enter Tryz.func40, Tryz.ntmps40
    obtain ⟨c0, c1, c2, c3, cf⟩ := F.out.cells
    go_wp2_with fail
    go_ret
    exact ⟨rfl, HB.out⟩

end Go.Proofs.YtiigclkebnmopaaGreatDoor
