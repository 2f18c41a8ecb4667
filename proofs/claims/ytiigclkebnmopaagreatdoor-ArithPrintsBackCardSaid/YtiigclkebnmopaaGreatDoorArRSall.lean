/- Arithmetic expressions: the reference's exprShape of two parts. -/
import Derived.Test.YtiigclkebnmopaaGreatDoorArRPr
import Derived.Shelf.Strings.SlTrimAscii
namespace Go.Proofs.YtiigclkebnmopaaGreatDoor
open Go.RowKit Go.Shelf

theorem dropw_nil {q : UInt8 → Bool} : ∀ {l : List UInt8}, l.dropWhile q = [] → ∀ x ∈ l, q x = true
  | [], _, x, hx => by cases hx
  | a :: l, h, x, hx => by
    unfold List.dropWhile at h
    split at h
    · rename_i ha
      rcases List.mem_cons.1 hx with rfl | hx
      · exact ha
      · exact dropw_nil h x hx
    · cases h
theorem dropw_head {q : UInt8 → Bool} : ∀ {l : List UInt8} {x : UInt8} {r : List UInt8}, l.dropWhile q = x :: r → q x = false
  | [], _, _, h => by cases h
  | a :: l, x, r, h => by
    unfold List.dropWhile at h
    split at h
    · exact dropw_head h
    · rename_i ha
      cases h
      exact ha
theorem nil_dropw {q : UInt8 → Bool} : ∀ {l : List UInt8}, (∀ x ∈ l, q x = true) → l.dropWhile q = []
  | [], _ => rfl
  | a :: l, h => by
    unfold List.dropWhile
    rw [h a (by simp)]
    exact nil_dropw fun x hx => h x (by simp [hx])
theorem trim_digits (nm : List UInt8) (h0 : nm ≠ []) (hl : nm.length ≤ 1000000) (w : World) : Calls Tryz.prog 76 #[.string (toB nm), .string ⟨#[48, 49, 50, 51, 52, 53, 54, 55, 56, 57]⟩] w fun e w' => (∃ s : ByteArray, e = .returned (.string s) ∧ (s.toList == []) = nm.all isD) ∧ Below w.heap.size w w' := by
  have hz := toB_size nm
  have hp : 0 < nm.length := List.length_pos_iff.2 h0
  refine (Any.strings_Trim_set Tryz.lays160 (fun w => by kernel_rfl) (by kernel_rfl) (toB nm) ⟨#[48, 49, 50, 51, 52, 53, 54, 55, 56, 57]⟩ w (by decide) (by omega) (by omega) (by decide) ?_).mono ?_
  · intro j b hb
    have hall : ∀ b ∈ ([48, 49, 50, 51, 52, 53, 54, 55, 56, 57] : List UInt8), b.toNat < 128 := by decide
    exact hall b (List.mem_of_getElem? hb)
  · rintro e w' ⟨rfl, q, rfl⟩
    have hb2 : ∀ o1 o2, Below w.heap.size w (((w.alloc o1).alloc o2).drewN q) := fun o1 o2 => by
      have h1 := ((Below.refl w.heap.size w).alloc (Nat.le_refl _) o1).alloc (by simp) o2
      exact ⟨h1.os, h1.tape, h1.output, h1.size, h1.block⟩
    refine ⟨⟨_, rfl, ?_⟩, hb2 _ _⟩
    rw [ByteArray.toList_eq]
    show ((Lib.trimS nm [48, 49, 50, 51, 52, 53, 54, 55, 56, 57]) == []) = _
    have hin : ∀ c : UInt8, ([48, 49, 50, 51, 52, 53, 54, 55, 56, 57] : List UInt8).contains c = isD c := by
      intro c
      have : ∀ d : Fin 256, ([48, 49, 50, 51, 52, 53, 54, 55, 56, 57] : List UInt8).contains (UInt8.ofNat d.val) = isD (UInt8.ofNat d.val) := by decide +kernel
      have h2 := this ⟨c.toNat, c.toNat_lt⟩
      rw [UInt8.ofNat_toNat] at h2
      exact h2
    unfold Lib.trimS Lib.trimLeftS Lib.trimRightS
    simp only [hin]
    rw [show (fun x => isD x) = isD from rfl]
    cases ha : nm.all isD with
    | true =>
      have h1 : nm.reverse.dropWhile isD = [] := nil_dropw fun x hx => List.all_eq_true.1 ha x (by simpa using hx)
      rw [h1]
      rfl
    | false =>
      have h1 : ¬ (nm.reverse.dropWhile isD).reverse.dropWhile isD = [] := by
        intro h
        have h2 := dropw_nil h
        have h3 : nm.reverse.dropWhile isD = [] := by
          cases hd : nm.reverse.dropWhile isD with
          | nil => rfl
          | cons x r =>
            exfalso
            have hx : isD x = false := dropw_head hd
            have := h2 x (by rw [hd]; simp)
            rw [hx] at this
            cases this
        have : nm.all isD = true := List.all_eq_true.2 fun x hx => dropw_nil h3 x (by simpa using hx)
        rw [ha] at this
        cases this
      simpa using h1

/-- the reference tells the form -/
def RSh (P : Nat → Prop) (y : Ex) : Prop := ∀ (v : Value) (W : World), ExV P W v y → Calls Tryz.prog 40 #[v] W fun e W' => e = .returned (.bool (shaped y)) ∧ Below W.heap.size W W'
set_option maxHeartbeats 1600000 in
theorem rshape1_any (P : Nat → Prop) (y : Ex) (IH : RSh P y) (v : Value) (w : World) (hx : ExV P w v y) : Calls Tryz.prog 78 #[v] w fun e w' => e = .returned (.bool (!shaped y)) ∧ Below w.heap.size w w' := by
  obtain ⟨n5, A5, k5, c5, nm5, rfl, hq⟩ := hx.form
  clear hq
  have ba := (Below.refl w.heap.size w).alloc (Nat.le_refl _) (.cells #[.string (toB y.op), .int .i64 n5, .string (toB nm5), .slice A5 k5 c5] 25)
  have HB := Lib.hid ba
  have F := Lib.hid (Four.new w (.string (toB y.op)) (.int .i64 n5) (.string (toB nm5)) (.slice A5 k5 c5))
  have HI := Lib.hid (fun W (hb : Below w.heap.size w W) => IH _ W (hx.below hb))
  clear hx IH ba
  go_enter Tryz.func78, Tryz.ntmps78
  obtain ⟨c0, c1, c2, c3, cf⟩ := F.out.cells
  go_wp2_with fail
  refine (HI.out _ HB.out).mono ?_
  rintro e w2 ⟨rfl, hb2⟩
  have HB2 := Lib.hid (HB.out.trans (hb2.mono HB.out.size))
  clear hb2
  go_wp2_with fail
  go_ret
  exact ⟨rfl, HB2.out⟩
set_option maxRecDepth 100000 in
set_option maxHeartbeats 3200000 in
theorem rindex_any (P : Nat → Prop) (A : Option Addr) (c : Nat) (l : List Ex) (w : World) (hA : ExA P w A l) (hl : l.length ≤ 1048576) (IH : ∀ y ∈ l, RSh P y) :
    Calls Tryz.prog 137 #[.slice A l.length c, .func (.func 78) #[] #[]] w fun e w' => (∃ i : Int, e = .returned (.int .i64 i) ∧ decide (i ≥ 0) = !shapeds l) ∧ Below w.heap.size w w' := by
  have HA := Lib.hid hA
  have HI := Lib.hid IH
  clear hA IH
  go_enter Tryz.func137, Tryz.ntmps137
  go_wp2_with fail
  go_loopw [8] (fun s8 wr => ∃ (k : Nat), s8 = .int .i64 (k : Int) ∧ k ≤ l.length ∧ Hid (ExA P wr A l) ∧ Hid (shapeds l = shapeds (l.drop k)) ∧ Hid (Below w.heap.size w wr)) (fun s8 _ => l.length - (intOf s8).toNat)
  case atStart => exact ⟨0, rfl, Nat.zero_le _, HA, Lib.hid rfl, Lib.hid (Below.refl _ _)⟩
  case round =>
    clear HA
    obtain ⟨k, rfl, hk, HA, HS, HW⟩ := hrel
    by_cases hlt : k < l.length
    · obtain ⟨g, off, rfl, _, hg, hL⟩ := HA.out (by omega)
      have hdr : l.drop k = l[k] :: l.drop (k + 1) := List.drop_eq_getElem_cons hlt
      have hLk := exl_at (k := k) hL
      have hmem := List.getElem_mem hlt
      rw [hdr] at hLk HS
      obtain ⟨v0, v1, v2, v3, k0, k1, k2, k3, hx⟩ := ex0 hLk
      generalize l[k] = y at *
      rw [show off + 4 * k = off + k * 4 by omega] at k0 k1 k2 k3
      obtain ⟨n5, A5, k5, c5, nm5, hv, hq5⟩ := hx.form
      simp only [Value.agg.injEq, Array.mk.injEq, List.cons.injEq, and_true] at hv
      clear hq5
      obtain ⟨rfl, rfl, rfl, rfl⟩ := hv
      have HI2 := Lib.hid (rshape1_any P y (HI.out y hmem) _ wr hx)
      clear hdr hx hL hLk hmem
      go_wp2_with fail
      refine HI2.out.mono ?_
      rintro e w3 ⟨rfl, hb3⟩
      have HA3 := Lib.hid (HA.out.below hb3)
      have HW3 := Lib.hid (HW.out.trans (hb3.mono HW.out.size))
      clear hb3 k0 k1 k2 k3
      cases hs : shaped y with
      | true =>
        have HS3 := Lib.hid (show shapeds l = shapeds (l.drop (k + 1)) by
          rw [HS.out]
          show (shaped y && _) = _
          rw [hs]
          rfl)
        clear hs
        go_wp2_with fail
        exact ⟨⟨k + 1, (by congr 1), by omega, HA3, HS3, HW3⟩, by simp [intOf]; omega⟩
      | false =>
        have HS3 := Lib.hid (show shapeds l = false by
          rw [HS.out]
          show (shaped y && _) = _
          rw [hs]
          rfl)
        clear hs
        go_wp2_with fail
        go_ret
        exact ⟨⟨_, rfl, by rw [HS3.out]; simp⟩, HW3.out⟩
    · obtain rfl : k = l.length := by omega
      have HS3 := Lib.hid (show shapeds l = true by rw [HS.out, List.drop_length]; rfl)
      go_wp2_with fail
      go_ret
      exact ⟨⟨_, rfl, by rw [HS3.out]; rfl⟩, HW.out⟩
set_option maxHeartbeats 1600000 in
theorem rcontains_any (P : Nat → Prop) (A : Option Addr) (c : Nat) (l : List Ex) (w : World) (hA : ExA P w A l) (hl : l.length ≤ 1048576) (IH : ∀ y ∈ l, RSh P y) :
    Calls Tryz.prog 77 #[.slice A l.length c, .func (.func 78) #[] #[]] w fun e w' => e = .returned (.bool (!shapeds l)) ∧ Below w.heap.size w w' := by
  have HI := Lib.hid (rindex_any P A c l w hA hl IH)
  clear hA IH
  go_enter Tryz.func77, Tryz.ntmps77
  go_wp2_with fail
  refine HI.out.mono ?_
  rintro e w2 ⟨⟨i, rfl, hi⟩, hb⟩
  have Hi := Lib.hid hi
  have HB := Lib.hid hb
  clear hi hb
  go_wp2_with fail
  go_ret
  exact ⟨by rw [← Hi.out]; rfl, HB.out⟩

end Go.Proofs.YtiigclkebnmopaaGreatDoor

namespace Go.Proofs.YtiigclkebnmopaaGreatDoor
open Go.RowKit Go.Shelf

set_option maxRecDepth 100000 in
set_option maxHeartbeats 6400000 in
theorem rshape_n (P : Nat → Prop) (n : Int) (nm : List UInt8) (l : List Ex) (hn : n ≤ (maxN : Int)) : RSh P (.mk [110] n nm l) := by
  intro v w hx
  obtain ⟨op, hop⟩ : ∃ op, ([110] : List UInt8) = op := ⟨_, rfl⟩
  rw [hop] at hx ⊢
  obtain ⟨A, c, rfl, _, _⟩ := hx.parts
  have HOp := Lib.hid hop.symm
  have f0 : ((toB op).toList == [110]) = true := by rw [toB_toList, HOp.out]; rfl
  have HS := Lib.hid (show shaped (.mk op n nm l) = (decide (0 ≤ n) && nm == [] && l.length == 0) by
    rw [← hop]
    unfold shaped
    rw [if_pos rfl]
    have : decide (0 ≤ n ∧ n ≤ (maxN : Int)) = decide (0 ≤ n) := by
      rw [decide_eq_decide]
      exact ⟨fun h => h.1, fun h => ⟨h, hn⟩⟩
    rw [this])
  have ba := (Below.refl w.heap.size w).alloc (Nat.le_refl _) (.cells #[.string (toB op), .int .i64 n, .string (toB nm), .slice A l.length c] 25)
  have HB := Lib.hid ba
  have F := Lib.hid (Four.new w (.string (toB op)) (.int .i64 n) (.string (toB nm)) (.slice A l.length c))
  have fe : ((toB nm).toList == []) = (nm == []) := by rw [toB_toList]
  have fe2 : (toB nm).toList.isEmpty = (nm == []) := by rw [toB_toList]; cases nm <;> rfl
  clear ba hx hop hn
  go_enter Tryz.func40, Tryz.ntmps40
  obtain ⟨c0, c1, c2, c3, cf⟩ := F.out.cells
  by_cases h0 : 0 ≤ n
  · have HS0 := Lib.hid h0
    cases hnm : (nm == []) with
    | true =>
      have HNm := Lib.hid hnm
      rw [hnm] at fe fe2
      by_cases hl : l.length = 0
      · have HL := Lib.hid hl
        have hl1 : ((l.length : Int) == 0) = true := by rw [beq_iff_eq]; omega
        clear hnm hl
        go_wp2_with fail
        go_ret
        exact ⟨by rw [HS.out, HNm.out, HL.out]; simp [HS0.out], HB.out⟩
      · have HL := Lib.hid hl
        have hl1 : ((l.length : Int) == 0) = false := by rw [beq_eq_false_iff_ne]; omega
        clear hnm hl
        go_wp2_with fail
        go_ret
        exact ⟨by rw [HS.out, HNm.out]; simp [HS0.out, HL.out], HB.out⟩
    | false =>
      have HNm := Lib.hid hnm
      rw [hnm] at fe fe2
      clear hnm
      go_wp2_with fail
      go_ret
      exact ⟨by rw [HS.out, HNm.out]; simp, HB.out⟩
  · have HS0 := Lib.hid h0
    have h1 : decide (n ≥ 0) = false := by simpa using h0
    go_wp2_with fail
    go_ret
    exact ⟨by have h9 : ¬ 0 ≤ n := (by have := HS0.out; omega); rw [HS.out]; simp [h9], HB.out⟩

set_option maxRecDepth 100000 in
set_option maxHeartbeats 6400000 in
theorem rshape_v (P : Nat → Prop) (nm : List UInt8) (hl : nm.length ≤ 16384) : RSh P (.mk [118] 0 nm []) := by
  intro v w hx
  obtain ⟨op, hop⟩ : ∃ op, ([118] : List UInt8) = op := ⟨_, rfl⟩
  rw [hop] at hx ⊢
  obtain ⟨n, hn0⟩ : ∃ n : Int, 0 = n := ⟨_, rfl⟩
  rw [hn0] at hx ⊢
  obtain ⟨A, c, rfl, _, _⟩ := hx.parts
  have HOp := Lib.hid hop.symm
  have f0 : ((toB op).toList == [110]) = false := by rw [toB_toList, HOp.out]; rfl
  have f1 : ((toB op).toList == [118]) = true := by rw [toB_toList, HOp.out]; rfl
  have HS := Lib.hid (show shaped (.mk op n nm []) = varOk nm by
    rw [← hop, ← hn0]
    unfold shaped
    rw [if_neg (by decide), if_pos rfl]
    simp)
  have ba := (Below.refl w.heap.size w).alloc (Nat.le_refl _) (.cells #[.string (toB op), .int .i64 n, .string (toB nm), .slice A ([] : List Ex).length c] 25)
  have HB := Lib.hid ba
  have F := Lib.hid (Four.new w (.string (toB op)) (.int .i64 n) (.string (toB nm)) (.slice A ([] : List Ex).length c))
  have fa : ((toB nm).toList == [35]) = (nm == [35]) := by rw [toB_toList]
  have fb : ((toB nm).toList == [63]) = (nm == [63]) := by rw [toB_toList]
  have hz := toB_size nm
  subst hn0
  clear ba hx hop
  go_enter Tryz.func40, Tryz.ntmps40
  obtain ⟨c0, c1, c2, c3, cf⟩ := F.out.cells
  go_wp2_with fail
  refine (risName_any nm _).mono ?_
  rintro e w2 ⟨rfl, rfl⟩
  cases h1 : isNm nm with
  | true =>
    have H1 := Lib.hid h1
    clear h1
    go_wp2_with fail
    go_ret
    exact ⟨by rw [HS.out]; unfold varOk; rw [H1.out]; rfl, HB.out⟩
  | false =>
    have H1 := Lib.hid h1
    clear h1
    cases h2 : (nm == [35]) with
    | true =>
      have H2 := Lib.hid h2
      rw [h2] at fa
      clear h2
      go_wp2_with fail
      go_ret
      exact ⟨by rw [HS.out]; unfold varOk; rw [H1.out, H2.out]; rfl, HB.out⟩
    | false =>
      have H2 := Lib.hid h2
      rw [h2] at fa
      clear h2
      cases h3 : (nm == [63]) with
      | true =>
        have H3 := Lib.hid h3
        rw [h3] at fb
        clear h3
        go_wp2_with fail
        go_ret
        exact ⟨by rw [HS.out]; unfold varOk; rw [H1.out, H2.out, H3.out]; rfl, HB.out⟩
      | false =>
        have H3 := Lib.hid h3
        rw [h3] at fb
        clear h3
        go_wp2_with fail
        refine (rplain_any nm _ hl).mono ?_
        rintro e w2 ⟨rfl, rfl⟩
        cases h4 : posOk nm with
        | false =>
          have H4 := Lib.hid h4
          clear h4
          go_wp2_with fail
          go_ret
          exact ⟨by rw [HS.out]; unfold varOk; rw [H1.out, H2.out, H3.out, H4.out]; rfl, HB.out⟩
        | true =>
          have hne : nm ≠ [] := by rintro rfl; exact absurd h4 (by decide)
          have HT := Lib.hid (trim_digits nm hne (by omega))
          have H4 := Lib.hid h4
          clear h4 hne
          go_wp2_with fail
          refine (HT.out _).mono ?_
          rintro e w3 ⟨⟨s, rfl, hs⟩, hb3⟩
          have HB3 := Lib.hid (HB.out.trans (hb3.mono HB.out.size))
          have HSs := Lib.hid hs
          have hse : s.toList.isEmpty = (s.toList == []) := by cases s.toList <;> rfl
          clear hb3
          cases h5 : nm.all isD with
          | true =>
            have H5 := Lib.hid h5
            rw [h5] at hs
            rw [hs] at hse
            clear h5
            go_wp2_with fail
            go_ret
            exact ⟨by rw [HS.out]; unfold varOk; rw [H1.out, H2.out, H3.out, H4.out, H5.out]; rfl, HB3.out⟩
          | false =>
            have H5 := Lib.hid h5
            rw [h5] at hs
            rw [hs] at hse
            clear h5
            go_wp2_with fail
            go_ret
            exact ⟨by rw [HS.out]; unfold varOk; rw [H1.out, H2.out, H3.out, H4.out, H5.out]; rfl, HB3.out⟩

set_option maxRecDepth 100000 in
set_option maxHeartbeats 6400000 in
theorem rshape_e (P : Nat → Prop) (nm : List UInt8) (y : Ex) (IH : RSh P y) : RSh P (.mk [101] 0 nm [y]) := by
  intro v w hx
  obtain ⟨op, hop⟩ : ∃ op, ([101] : List UInt8) = op := ⟨_, rfl⟩
  rw [hop] at hx ⊢
  obtain ⟨n, hn0⟩ : ∃ n : Int, 0 = n := ⟨_, rfl⟩
  rw [hn0] at hx ⊢
  obtain ⟨A, c, rfl, _, hA⟩ := hx.parts
  have HOp := Lib.hid hop.symm
  have f0 : ((toB op).toList == [110]) = false := by rw [toB_toList, HOp.out]; rfl
  have f1 : ((toB op).toList == [118]) = false := by rw [toB_toList, HOp.out]; rfl
  have f2 : ((toB op).toList == [101]) = true := by rw [toB_toList, HOp.out]; rfl
  have HS := Lib.hid (show shaped (.mk op n nm [y]) = (isNm nm && shaped y) by
    rw [← hop, ← hn0]
    have e : shapeds [y] = shaped y := by simp [shapeds]
    conv => lhs; unfold shaped
    rw [if_neg (by decide), if_neg (by decide), if_pos rfl, e]
    simp)
  have ba := (Below.refl w.heap.size w).alloc (Nat.le_refl _) (.cells #[.string (toB op), .int .i64 n, .string (toB nm), .slice A [y].length c] 25)
  have HB := Lib.hid ba
  have F := Lib.hid (Four.new w (.string (toB op)) (.int .i64 n) (.string (toB nm)) (.slice A [y].length c))
  obtain ⟨g, off, rfl, _, hg, hL⟩ := hA.below ba (by simp)
  obtain ⟨v0, v1, v2, v3, p0, p1, p2, p3, hxy⟩ := ex0 hL
  obtain ⟨n5, A5, k5, c5, nm5, hv, hq5⟩ := hxy.form
  simp only [Value.agg.injEq, Array.mk.injEq, List.cons.injEq, and_true] at hv
  clear hq5
  obtain ⟨rfl, rfl, rfl, rfl⟩ := hv
  have HI := Lib.hid (IH _ _ hxy)
  subst hn0
  clear ba hx hop hA hL hxy IH
  go_enter Tryz.func40, Tryz.ntmps40
  obtain ⟨c0, c1, c2, c3, cf⟩ := F.out.cells
  go_wp2_with fail
  generalize w.alloc (.cells #[.string (toB op), .int .i64 0, .string (toB nm), .slice (some ⟨g, off, none⟩) [y].length c] 25) = w1 at *
  refine (risName_any nm _).mono ?_
  rintro e w2 ⟨rfl, rfl⟩
  cases h1 : isNm nm with
  | false =>
    have H1 := Lib.hid h1
    clear h1
    go_wp2_with fail
    go_ret
    exact ⟨by rw [HS.out, H1.out]; rfl, HB.out⟩
  | true =>
    have H1 := Lib.hid h1
    clear h1
    go_wp2_with fail
    refine HI.out.mono ?_
    rintro e w3 ⟨rfl, hb3⟩
    have HB3 := Lib.hid (HB.out.trans (hb3.mono HB.out.size))
    clear hb3
    go_wp2_with fail
    go_ret
    exact ⟨by rw [HS.out, H1.out]; rfl, HB3.out⟩

theorem all_ne (op : List UInt8) : (∃ L ∈ ([[110], [118], [101], [117, 45], [117, 43], [33], [126], [43, 43, 118], [45, 45, 118], [118, 43, 43], [118, 45, 45], [63], [42], [47], [37], [43], [45], [60, 60], [62, 62], [60], [60, 61], [62], [62, 61], [61, 61], [33, 61], [38], [94], [124], [38, 38], [124, 124], [44], [61], [42, 61], [47, 61], [37, 61], [43, 61], [45, 61], [60, 60, 61], [62, 62, 61], [38, 61], [94, 61], [124, 61]] : List (List UInt8)), op = L) ∨ ∀ M ∈ ([[110], [118], [101], [117, 45], [117, 43], [33], [126], [43, 43, 118], [45, 45, 118], [118, 43, 43], [118, 45, 45], [63], [42], [47], [37], [43], [45], [60, 60], [62, 62], [60], [60, 61], [62], [62, 61], [61, 61], [33, 61], [38], [94], [124], [38, 38], [124, 124], [44], [61], [42, 61], [47, 61], [37, 61], [43, 61], [45, 61], [60, 60, 61], [62, 62, 61], [38, 61], [94, 61], [124, 61]] : List (List UInt8)), (op == M) = false := by
  by_cases h : op ∈ ([[110], [118], [101], [117, 45], [117, 43], [33], [126], [43, 43, 118], [45, 45, 118], [118, 43, 43], [118, 45, 45], [63], [42], [47], [37], [43], [45], [60, 60], [62, 62], [60], [60, 61], [62], [62, 61], [61, 61], [33, 61], [38], [94], [124], [38, 38], [124, 124], [44], [61], [42, 61], [47, 61], [37, 61], [43, 61], [45, 61], [60, 60, 61], [62, 62, 61], [38, 61], [94, 61], [124, 61]] : List (List UInt8))
  · exact .inl ⟨op, h, rfl⟩
  · exact .inr fun M hM => beq_eq_false_iff_ne.2 fun e => h (e ▸ hM)
theorem cmpB {op L : List UInt8} (h : op = L) (M : List UInt8) {b : Bool} (hb : (L == M) = b) : ((toB op).toList == M) = b := by rw [toB_toList, h]; exact hb
set_option maxRecDepth 100000 in
set_option maxHeartbeats 6400000 in
theorem rshape_bad (P : Nat → Prop) (op nm : List UInt8) (n : Int) (l : List Ex) (hn : n ≠ 0) (h0 : op ≠ [110]) (v : Value) (w : World) (hx : ExV P w v (.mk op n nm l)) :
    Calls Tryz.prog 40 #[v] w fun e w' => e = .returned (.bool false) ∧ Below w.heap.size w w' := by
  obtain ⟨A, c, rfl, _, _⟩ := hx.parts
  have ba := (Below.refl w.heap.size w).alloc (Nat.le_refl _) (.cells #[.string (toB op), .int .i64 n, .string (toB nm), .slice A l.length c] 25)
  have HB := Lib.hid ba
  have F := Lib.hid (Four.new w (.string (toB op)) (.int .i64 n) (.string (toB nm)) (.slice A l.length c))
  have hn1 : (n == 0) = false := by rw [beq_eq_false_iff_ne]; exact hn
  have hn2 : (n != 0) = true := by rw [bne_iff_ne]; exact hn
  clear ba hx hn
  rcases all_ne op with ⟨L, hL, hop⟩ | hne
  · have HOp0 := Lib.hid hop
    simp only [List.mem_cons, List.not_mem_nil, or_false] at hL
    clear hop
    rcases hL with rfl | rfl | rfl | rfl | rfl | rfl | rfl | rfl | rfl | rfl | rfl | rfl | rfl | rfl | rfl | rfl | rfl | rfl | rfl | rfl | rfl | rfl | rfl | rfl | rfl | rfl | rfl | rfl | rfl | rfl | rfl | rfl | rfl | rfl | rfl | rfl | rfl | rfl | rfl | rfl | rfl | rfl
    · exact absurd HOp0.out h0
    · have HOp := HOp0
      have f0 := cmpB (b := false) HOp.out [110] rfl
      have f1 := cmpB (b := true) HOp.out [118] rfl
      clear h0
      go_enter Tryz.func40, Tryz.ntmps40
      obtain ⟨c0, c1, c2, c3, cf⟩ := F.out.cells
      go_wp2_with fail
      go_ret
      exact ⟨rfl, HB.out⟩
    · have HOp := HOp0
      have f0 := cmpB (b := false) HOp.out [110] rfl
      have f1 := cmpB (b := false) HOp.out [118] rfl
      have f2 := cmpB (b := true) HOp.out [101] rfl
      clear h0
      go_enter Tryz.func40, Tryz.ntmps40
      obtain ⟨c0, c1, c2, c3, cf⟩ := F.out.cells
      go_wp2_with fail
      go_ret
      exact ⟨rfl, HB.out⟩
    · have HOp := HOp0
      have f0 := cmpB (b := false) HOp.out [110] rfl
      have f1 := cmpB (b := false) HOp.out [118] rfl
      have f2 := cmpB (b := false) HOp.out [101] rfl
      have f3 := cmpB (b := true) HOp.out [117, 45] rfl
      clear h0
      go_enter Tryz.func40, Tryz.ntmps40
      obtain ⟨c0, c1, c2, c3, cf⟩ := F.out.cells
      go_wp2_with fail
      go_ret
      exact ⟨rfl, HB.out⟩
    · have HOp := HOp0
      have f0 := cmpB (b := false) HOp.out [110] rfl
      have f1 := cmpB (b := false) HOp.out [118] rfl
      have f2 := cmpB (b := false) HOp.out [101] rfl
      have f3 := cmpB (b := false) HOp.out [117, 45] rfl
      have f4 := cmpB (b := true) HOp.out [117, 43] rfl
      clear h0
      go_enter Tryz.func40, Tryz.ntmps40
      obtain ⟨c0, c1, c2, c3, cf⟩ := F.out.cells
      go_wp2_with fail
      go_ret
      exact ⟨rfl, HB.out⟩
    · have HOp := HOp0
      have f0 := cmpB (b := false) HOp.out [110] rfl
      have f1 := cmpB (b := false) HOp.out [118] rfl
      have f2 := cmpB (b := false) HOp.out [101] rfl
      have f3 := cmpB (b := false) HOp.out [117, 45] rfl
      have f4 := cmpB (b := false) HOp.out [117, 43] rfl
      have f5 := cmpB (b := true) HOp.out [33] rfl
      clear h0
      go_enter Tryz.func40, Tryz.ntmps40
      obtain ⟨c0, c1, c2, c3, cf⟩ := F.out.cells
      go_wp2_with fail
      go_ret
      exact ⟨rfl, HB.out⟩
    · have HOp := HOp0
      have f0 := cmpB (b := false) HOp.out [110] rfl
      have f1 := cmpB (b := false) HOp.out [118] rfl
      have f2 := cmpB (b := false) HOp.out [101] rfl
      have f3 := cmpB (b := false) HOp.out [117, 45] rfl
      have f4 := cmpB (b := false) HOp.out [117, 43] rfl
      have f5 := cmpB (b := false) HOp.out [33] rfl
      have f6 := cmpB (b := true) HOp.out [126] rfl
      clear h0
      go_enter Tryz.func40, Tryz.ntmps40
      obtain ⟨c0, c1, c2, c3, cf⟩ := F.out.cells
      go_wp2_with fail
      go_ret
      exact ⟨rfl, HB.out⟩
    · have HOp := HOp0
      have f0 := cmpB (b := false) HOp.out [110] rfl
      have f1 := cmpB (b := false) HOp.out [118] rfl
      have f2 := cmpB (b := false) HOp.out [101] rfl
      have f3 := cmpB (b := false) HOp.out [117, 45] rfl
      have f4 := cmpB (b := false) HOp.out [117, 43] rfl
      have f5 := cmpB (b := false) HOp.out [33] rfl
      have f6 := cmpB (b := false) HOp.out [126] rfl
      have f7 := cmpB (b := true) HOp.out [43, 43, 118] rfl
      clear h0
      go_enter Tryz.func40, Tryz.ntmps40
      obtain ⟨c0, c1, c2, c3, cf⟩ := F.out.cells
      go_wp2_with fail
      go_ret
      exact ⟨rfl, HB.out⟩
    · have HOp := HOp0
      have f0 := cmpB (b := false) HOp.out [110] rfl
      have f1 := cmpB (b := false) HOp.out [118] rfl
      have f2 := cmpB (b := false) HOp.out [101] rfl
      have f3 := cmpB (b := false) HOp.out [117, 45] rfl
      have f4 := cmpB (b := false) HOp.out [117, 43] rfl
      have f5 := cmpB (b := false) HOp.out [33] rfl
      have f6 := cmpB (b := false) HOp.out [126] rfl
      have f7 := cmpB (b := false) HOp.out [43, 43, 118] rfl
      have f8 := cmpB (b := true) HOp.out [45, 45, 118] rfl
      clear h0
      go_enter Tryz.func40, Tryz.ntmps40
      obtain ⟨c0, c1, c2, c3, cf⟩ := F.out.cells
      go_wp2_with fail
      go_ret
      exact ⟨rfl, HB.out⟩
    · have HOp := HOp0
      have f0 := cmpB (b := false) HOp.out [110] rfl
      have f1 := cmpB (b := false) HOp.out [118] rfl
      have f2 := cmpB (b := false) HOp.out [101] rfl
      have f3 := cmpB (b := false) HOp.out [117, 45] rfl
      have f4 := cmpB (b := false) HOp.out [117, 43] rfl
      have f5 := cmpB (b := false) HOp.out [33] rfl
      have f6 := cmpB (b := false) HOp.out [126] rfl
      have f7 := cmpB (b := false) HOp.out [43, 43, 118] rfl
      have f8 := cmpB (b := false) HOp.out [45, 45, 118] rfl
      have f9 := cmpB (b := true) HOp.out [118, 43, 43] rfl
      clear h0
      go_enter Tryz.func40, Tryz.ntmps40
      obtain ⟨c0, c1, c2, c3, cf⟩ := F.out.cells
      go_wp2_with fail
      go_ret
      exact ⟨rfl, HB.out⟩
    · have HOp := HOp0
      have f0 := cmpB (b := false) HOp.out [110] rfl
      have f1 := cmpB (b := false) HOp.out [118] rfl
      have f2 := cmpB (b := false) HOp.out [101] rfl
      have f3 := cmpB (b := false) HOp.out [117, 45] rfl
      have f4 := cmpB (b := false) HOp.out [117, 43] rfl
      have f5 := cmpB (b := false) HOp.out [33] rfl
      have f6 := cmpB (b := false) HOp.out [126] rfl
      have f7 := cmpB (b := false) HOp.out [43, 43, 118] rfl
      have f8 := cmpB (b := false) HOp.out [45, 45, 118] rfl
      have f9 := cmpB (b := false) HOp.out [118, 43, 43] rfl
      have f10 := cmpB (b := true) HOp.out [118, 45, 45] rfl
      clear h0
      go_enter Tryz.func40, Tryz.ntmps40
      obtain ⟨c0, c1, c2, c3, cf⟩ := F.out.cells
      go_wp2_with fail
      go_ret
      exact ⟨rfl, HB.out⟩
    · have HOp := HOp0
      have f0 := cmpB (b := false) HOp.out [110] rfl
      have f1 := cmpB (b := false) HOp.out [118] rfl
      have f2 := cmpB (b := false) HOp.out [101] rfl
      have f3 := cmpB (b := false) HOp.out [117, 45] rfl
      have f4 := cmpB (b := false) HOp.out [117, 43] rfl
      have f5 := cmpB (b := false) HOp.out [33] rfl
      have f6 := cmpB (b := false) HOp.out [126] rfl
      have f7 := cmpB (b := false) HOp.out [43, 43, 118] rfl
      have f8 := cmpB (b := false) HOp.out [45, 45, 118] rfl
      have f9 := cmpB (b := false) HOp.out [118, 43, 43] rfl
      have f10 := cmpB (b := false) HOp.out [118, 45, 45] rfl
      have f11 := cmpB (b := true) HOp.out [63] rfl
      clear h0
      go_enter Tryz.func40, Tryz.ntmps40
      obtain ⟨c0, c1, c2, c3, cf⟩ := F.out.cells
      go_wp2_with fail
      go_ret
      exact ⟨rfl, HB.out⟩
    · have HOp := HOp0
      have f0 := cmpB (b := false) HOp.out [110] rfl
      have f1 := cmpB (b := false) HOp.out [118] rfl
      have f2 := cmpB (b := false) HOp.out [101] rfl
      have f3 := cmpB (b := false) HOp.out [117, 45] rfl
      have f4 := cmpB (b := false) HOp.out [117, 43] rfl
      have f5 := cmpB (b := false) HOp.out [33] rfl
      have f6 := cmpB (b := false) HOp.out [126] rfl
      have f7 := cmpB (b := false) HOp.out [43, 43, 118] rfl
      have f8 := cmpB (b := false) HOp.out [45, 45, 118] rfl
      have f9 := cmpB (b := false) HOp.out [118, 43, 43] rfl
      have f10 := cmpB (b := false) HOp.out [118, 45, 45] rfl
      have f11 := cmpB (b := false) HOp.out [63] rfl
      have f12 := cmpB (b := true) HOp.out [42] rfl
      clear h0
      go_enter Tryz.func40, Tryz.ntmps40
      obtain ⟨c0, c1, c2, c3, cf⟩ := F.out.cells
      go_wp2_with fail
      go_ret
      exact ⟨rfl, HB.out⟩
    · have HOp := HOp0
      have f0 := cmpB (b := false) HOp.out [110] rfl
      have f1 := cmpB (b := false) HOp.out [118] rfl
      have f2 := cmpB (b := false) HOp.out [101] rfl
      have f3 := cmpB (b := false) HOp.out [117, 45] rfl
      have f4 := cmpB (b := false) HOp.out [117, 43] rfl
      have f5 := cmpB (b := false) HOp.out [33] rfl
      have f6 := cmpB (b := false) HOp.out [126] rfl
      have f7 := cmpB (b := false) HOp.out [43, 43, 118] rfl
      have f8 := cmpB (b := false) HOp.out [45, 45, 118] rfl
      have f9 := cmpB (b := false) HOp.out [118, 43, 43] rfl
      have f10 := cmpB (b := false) HOp.out [118, 45, 45] rfl
      have f11 := cmpB (b := false) HOp.out [63] rfl
      have f12 := cmpB (b := false) HOp.out [42] rfl
      have f13 := cmpB (b := true) HOp.out [47] rfl
      clear h0
      go_enter Tryz.func40, Tryz.ntmps40
      obtain ⟨c0, c1, c2, c3, cf⟩ := F.out.cells
      go_wp2_with fail
      go_ret
      exact ⟨rfl, HB.out⟩
    · have HOp := HOp0
      have f0 := cmpB (b := false) HOp.out [110] rfl
      have f1 := cmpB (b := false) HOp.out [118] rfl
      have f2 := cmpB (b := false) HOp.out [101] rfl
      have f3 := cmpB (b := false) HOp.out [117, 45] rfl
      have f4 := cmpB (b := false) HOp.out [117, 43] rfl
      have f5 := cmpB (b := false) HOp.out [33] rfl
      have f6 := cmpB (b := false) HOp.out [126] rfl
      have f7 := cmpB (b := false) HOp.out [43, 43, 118] rfl
      have f8 := cmpB (b := false) HOp.out [45, 45, 118] rfl
      have f9 := cmpB (b := false) HOp.out [118, 43, 43] rfl
      have f10 := cmpB (b := false) HOp.out [118, 45, 45] rfl
      have f11 := cmpB (b := false) HOp.out [63] rfl
      have f12 := cmpB (b := false) HOp.out [42] rfl
      have f13 := cmpB (b := false) HOp.out [47] rfl
      have f14 := cmpB (b := true) HOp.out [37] rfl
      clear h0
      go_enter Tryz.func40, Tryz.ntmps40
      obtain ⟨c0, c1, c2, c3, cf⟩ := F.out.cells
      go_wp2_with fail
      go_ret
      exact ⟨rfl, HB.out⟩
    · have HOp := HOp0
      have f0 := cmpB (b := false) HOp.out [110] rfl
      have f1 := cmpB (b := false) HOp.out [118] rfl
      have f2 := cmpB (b := false) HOp.out [101] rfl
      have f3 := cmpB (b := false) HOp.out [117, 45] rfl
      have f4 := cmpB (b := false) HOp.out [117, 43] rfl
      have f5 := cmpB (b := false) HOp.out [33] rfl
      have f6 := cmpB (b := false) HOp.out [126] rfl
      have f7 := cmpB (b := false) HOp.out [43, 43, 118] rfl
      have f8 := cmpB (b := false) HOp.out [45, 45, 118] rfl
      have f9 := cmpB (b := false) HOp.out [118, 43, 43] rfl
      have f10 := cmpB (b := false) HOp.out [118, 45, 45] rfl
      have f11 := cmpB (b := false) HOp.out [63] rfl
      have f12 := cmpB (b := false) HOp.out [42] rfl
      have f13 := cmpB (b := false) HOp.out [47] rfl
      have f14 := cmpB (b := false) HOp.out [37] rfl
      have f15 := cmpB (b := true) HOp.out [43] rfl
      clear h0
      go_enter Tryz.func40, Tryz.ntmps40
      obtain ⟨c0, c1, c2, c3, cf⟩ := F.out.cells
      go_wp2_with fail
      go_ret
      exact ⟨rfl, HB.out⟩
    · have HOp := HOp0
      have f0 := cmpB (b := false) HOp.out [110] rfl
      have f1 := cmpB (b := false) HOp.out [118] rfl
      have f2 := cmpB (b := false) HOp.out [101] rfl
      have f3 := cmpB (b := false) HOp.out [117, 45] rfl
      have f4 := cmpB (b := false) HOp.out [117, 43] rfl
      have f5 := cmpB (b := false) HOp.out [33] rfl
      have f6 := cmpB (b := false) HOp.out [126] rfl
      have f7 := cmpB (b := false) HOp.out [43, 43, 118] rfl
      have f8 := cmpB (b := false) HOp.out [45, 45, 118] rfl
      have f9 := cmpB (b := false) HOp.out [118, 43, 43] rfl
      have f10 := cmpB (b := false) HOp.out [118, 45, 45] rfl
      have f11 := cmpB (b := false) HOp.out [63] rfl
      have f12 := cmpB (b := false) HOp.out [42] rfl
      have f13 := cmpB (b := false) HOp.out [47] rfl
      have f14 := cmpB (b := false) HOp.out [37] rfl
      have f15 := cmpB (b := false) HOp.out [43] rfl
      have f16 := cmpB (b := true) HOp.out [45] rfl
      clear h0
      go_enter Tryz.func40, Tryz.ntmps40
      obtain ⟨c0, c1, c2, c3, cf⟩ := F.out.cells
      go_wp2_with fail
      go_ret
      exact ⟨rfl, HB.out⟩
    · have HOp := HOp0
      have f0 := cmpB (b := false) HOp.out [110] rfl
      have f1 := cmpB (b := false) HOp.out [118] rfl
      have f2 := cmpB (b := false) HOp.out [101] rfl
      have f3 := cmpB (b := false) HOp.out [117, 45] rfl
      have f4 := cmpB (b := false) HOp.out [117, 43] rfl
      have f5 := cmpB (b := false) HOp.out [33] rfl
      have f6 := cmpB (b := false) HOp.out [126] rfl
      have f7 := cmpB (b := false) HOp.out [43, 43, 118] rfl
      have f8 := cmpB (b := false) HOp.out [45, 45, 118] rfl
      have f9 := cmpB (b := false) HOp.out [118, 43, 43] rfl
      have f10 := cmpB (b := false) HOp.out [118, 45, 45] rfl
      have f11 := cmpB (b := false) HOp.out [63] rfl
      have f12 := cmpB (b := false) HOp.out [42] rfl
      have f13 := cmpB (b := false) HOp.out [47] rfl
      have f14 := cmpB (b := false) HOp.out [37] rfl
      have f15 := cmpB (b := false) HOp.out [43] rfl
      have f16 := cmpB (b := false) HOp.out [45] rfl
      have f17 := cmpB (b := true) HOp.out [60, 60] rfl
      clear h0
      go_enter Tryz.func40, Tryz.ntmps40
      obtain ⟨c0, c1, c2, c3, cf⟩ := F.out.cells
      go_wp2_with fail
      go_ret
      exact ⟨rfl, HB.out⟩
    · have HOp := HOp0
      have f0 := cmpB (b := false) HOp.out [110] rfl
      have f1 := cmpB (b := false) HOp.out [118] rfl
      have f2 := cmpB (b := false) HOp.out [101] rfl
      have f3 := cmpB (b := false) HOp.out [117, 45] rfl
      have f4 := cmpB (b := false) HOp.out [117, 43] rfl
      have f5 := cmpB (b := false) HOp.out [33] rfl
      have f6 := cmpB (b := false) HOp.out [126] rfl
      have f7 := cmpB (b := false) HOp.out [43, 43, 118] rfl
      have f8 := cmpB (b := false) HOp.out [45, 45, 118] rfl
      have f9 := cmpB (b := false) HOp.out [118, 43, 43] rfl
      have f10 := cmpB (b := false) HOp.out [118, 45, 45] rfl
      have f11 := cmpB (b := false) HOp.out [63] rfl
      have f12 := cmpB (b := false) HOp.out [42] rfl
      have f13 := cmpB (b := false) HOp.out [47] rfl
      have f14 := cmpB (b := false) HOp.out [37] rfl
      have f15 := cmpB (b := false) HOp.out [43] rfl
      have f16 := cmpB (b := false) HOp.out [45] rfl
      have f17 := cmpB (b := false) HOp.out [60, 60] rfl
      have f18 := cmpB (b := true) HOp.out [62, 62] rfl
      clear h0
      go_enter Tryz.func40, Tryz.ntmps40
      obtain ⟨c0, c1, c2, c3, cf⟩ := F.out.cells
      go_wp2_with fail
      go_ret
      exact ⟨rfl, HB.out⟩
    · have HOp := HOp0
      have f0 := cmpB (b := false) HOp.out [110] rfl
      have f1 := cmpB (b := false) HOp.out [118] rfl
      have f2 := cmpB (b := false) HOp.out [101] rfl
      have f3 := cmpB (b := false) HOp.out [117, 45] rfl
      have f4 := cmpB (b := false) HOp.out [117, 43] rfl
      have f5 := cmpB (b := false) HOp.out [33] rfl
      have f6 := cmpB (b := false) HOp.out [126] rfl
      have f7 := cmpB (b := false) HOp.out [43, 43, 118] rfl
      have f8 := cmpB (b := false) HOp.out [45, 45, 118] rfl
      have f9 := cmpB (b := false) HOp.out [118, 43, 43] rfl
      have f10 := cmpB (b := false) HOp.out [118, 45, 45] rfl
      have f11 := cmpB (b := false) HOp.out [63] rfl
      have f12 := cmpB (b := false) HOp.out [42] rfl
      have f13 := cmpB (b := false) HOp.out [47] rfl
      have f14 := cmpB (b := false) HOp.out [37] rfl
      have f15 := cmpB (b := false) HOp.out [43] rfl
      have f16 := cmpB (b := false) HOp.out [45] rfl
      have f17 := cmpB (b := false) HOp.out [60, 60] rfl
      have f18 := cmpB (b := false) HOp.out [62, 62] rfl
      have f19 := cmpB (b := true) HOp.out [60] rfl
      clear h0
      go_enter Tryz.func40, Tryz.ntmps40
      obtain ⟨c0, c1, c2, c3, cf⟩ := F.out.cells
      go_wp2_with fail
      go_ret
      exact ⟨rfl, HB.out⟩
    · have HOp := HOp0
      have f0 := cmpB (b := false) HOp.out [110] rfl
      have f1 := cmpB (b := false) HOp.out [118] rfl
      have f2 := cmpB (b := false) HOp.out [101] rfl
      have f3 := cmpB (b := false) HOp.out [117, 45] rfl
      have f4 := cmpB (b := false) HOp.out [117, 43] rfl
      have f5 := cmpB (b := false) HOp.out [33] rfl
      have f6 := cmpB (b := false) HOp.out [126] rfl
      have f7 := cmpB (b := false) HOp.out [43, 43, 118] rfl
      have f8 := cmpB (b := false) HOp.out [45, 45, 118] rfl
      have f9 := cmpB (b := false) HOp.out [118, 43, 43] rfl
      have f10 := cmpB (b := false) HOp.out [118, 45, 45] rfl
      have f11 := cmpB (b := false) HOp.out [63] rfl
      have f12 := cmpB (b := false) HOp.out [42] rfl
      have f13 := cmpB (b := false) HOp.out [47] rfl
      have f14 := cmpB (b := false) HOp.out [37] rfl
      have f15 := cmpB (b := false) HOp.out [43] rfl
      have f16 := cmpB (b := false) HOp.out [45] rfl
      have f17 := cmpB (b := false) HOp.out [60, 60] rfl
      have f18 := cmpB (b := false) HOp.out [62, 62] rfl
      have f19 := cmpB (b := false) HOp.out [60] rfl
      have f20 := cmpB (b := true) HOp.out [60, 61] rfl
      clear h0
      go_enter Tryz.func40, Tryz.ntmps40
      obtain ⟨c0, c1, c2, c3, cf⟩ := F.out.cells
      go_wp2_with fail
      go_ret
      exact ⟨rfl, HB.out⟩
    · have HOp := HOp0
      have f0 := cmpB (b := false) HOp.out [110] rfl
      have f1 := cmpB (b := false) HOp.out [118] rfl
      have f2 := cmpB (b := false) HOp.out [101] rfl
      have f3 := cmpB (b := false) HOp.out [117, 45] rfl
      have f4 := cmpB (b := false) HOp.out [117, 43] rfl
      have f5 := cmpB (b := false) HOp.out [33] rfl
      have f6 := cmpB (b := false) HOp.out [126] rfl
      have f7 := cmpB (b := false) HOp.out [43, 43, 118] rfl
      have f8 := cmpB (b := false) HOp.out [45, 45, 118] rfl
      have f9 := cmpB (b := false) HOp.out [118, 43, 43] rfl
      have f10 := cmpB (b := false) HOp.out [118, 45, 45] rfl
      have f11 := cmpB (b := false) HOp.out [63] rfl
      have f12 := cmpB (b := false) HOp.out [42] rfl
      have f13 := cmpB (b := false) HOp.out [47] rfl
      have f14 := cmpB (b := false) HOp.out [37] rfl
      have f15 := cmpB (b := false) HOp.out [43] rfl
      have f16 := cmpB (b := false) HOp.out [45] rfl
      have f17 := cmpB (b := false) HOp.out [60, 60] rfl
      have f18 := cmpB (b := false) HOp.out [62, 62] rfl
      have f19 := cmpB (b := false) HOp.out [60] rfl
      have f20 := cmpB (b := false) HOp.out [60, 61] rfl
      have f21 := cmpB (b := true) HOp.out [62] rfl
      clear h0
      go_enter Tryz.func40, Tryz.ntmps40
      obtain ⟨c0, c1, c2, c3, cf⟩ := F.out.cells
      go_wp2_with fail
      go_ret
      exact ⟨rfl, HB.out⟩
    · have HOp := HOp0
      have f0 := cmpB (b := false) HOp.out [110] rfl
      have f1 := cmpB (b := false) HOp.out [118] rfl
      have f2 := cmpB (b := false) HOp.out [101] rfl
      have f3 := cmpB (b := false) HOp.out [117, 45] rfl
      have f4 := cmpB (b := false) HOp.out [117, 43] rfl
      have f5 := cmpB (b := false) HOp.out [33] rfl
      have f6 := cmpB (b := false) HOp.out [126] rfl
      have f7 := cmpB (b := false) HOp.out [43, 43, 118] rfl
      have f8 := cmpB (b := false) HOp.out [45, 45, 118] rfl
      have f9 := cmpB (b := false) HOp.out [118, 43, 43] rfl
      have f10 := cmpB (b := false) HOp.out [118, 45, 45] rfl
      have f11 := cmpB (b := false) HOp.out [63] rfl
      have f12 := cmpB (b := false) HOp.out [42] rfl
      have f13 := cmpB (b := false) HOp.out [47] rfl
      have f14 := cmpB (b := false) HOp.out [37] rfl
      have f15 := cmpB (b := false) HOp.out [43] rfl
      have f16 := cmpB (b := false) HOp.out [45] rfl
      have f17 := cmpB (b := false) HOp.out [60, 60] rfl
      have f18 := cmpB (b := false) HOp.out [62, 62] rfl
      have f19 := cmpB (b := false) HOp.out [60] rfl
      have f20 := cmpB (b := false) HOp.out [60, 61] rfl
      have f21 := cmpB (b := false) HOp.out [62] rfl
      have f22 := cmpB (b := true) HOp.out [62, 61] rfl
      clear h0
      go_enter Tryz.func40, Tryz.ntmps40
      obtain ⟨c0, c1, c2, c3, cf⟩ := F.out.cells
      go_wp2_with fail
      go_ret
      exact ⟨rfl, HB.out⟩
    · have HOp := HOp0
      have f0 := cmpB (b := false) HOp.out [110] rfl
      have f1 := cmpB (b := false) HOp.out [118] rfl
      have f2 := cmpB (b := false) HOp.out [101] rfl
      have f3 := cmpB (b := false) HOp.out [117, 45] rfl
      have f4 := cmpB (b := false) HOp.out [117, 43] rfl
      have f5 := cmpB (b := false) HOp.out [33] rfl
      have f6 := cmpB (b := false) HOp.out [126] rfl
      have f7 := cmpB (b := false) HOp.out [43, 43, 118] rfl
      have f8 := cmpB (b := false) HOp.out [45, 45, 118] rfl
      have f9 := cmpB (b := false) HOp.out [118, 43, 43] rfl
      have f10 := cmpB (b := false) HOp.out [118, 45, 45] rfl
      have f11 := cmpB (b := false) HOp.out [63] rfl
      have f12 := cmpB (b := false) HOp.out [42] rfl
      have f13 := cmpB (b := false) HOp.out [47] rfl
      have f14 := cmpB (b := false) HOp.out [37] rfl
      have f15 := cmpB (b := false) HOp.out [43] rfl
      have f16 := cmpB (b := false) HOp.out [45] rfl
      have f17 := cmpB (b := false) HOp.out [60, 60] rfl
      have f18 := cmpB (b := false) HOp.out [62, 62] rfl
      have f19 := cmpB (b := false) HOp.out [60] rfl
      have f20 := cmpB (b := false) HOp.out [60, 61] rfl
      have f21 := cmpB (b := false) HOp.out [62] rfl
      have f22 := cmpB (b := false) HOp.out [62, 61] rfl
      have f23 := cmpB (b := true) HOp.out [61, 61] rfl
      clear h0
      go_enter Tryz.func40, Tryz.ntmps40
      obtain ⟨c0, c1, c2, c3, cf⟩ := F.out.cells
      go_wp2_with fail
      go_ret
      exact ⟨rfl, HB.out⟩
    · have HOp := HOp0
      have f0 := cmpB (b := false) HOp.out [110] rfl
      have f1 := cmpB (b := false) HOp.out [118] rfl
      have f2 := cmpB (b := false) HOp.out [101] rfl
      have f3 := cmpB (b := false) HOp.out [117, 45] rfl
      have f4 := cmpB (b := false) HOp.out [117, 43] rfl
      have f5 := cmpB (b := false) HOp.out [33] rfl
      have f6 := cmpB (b := false) HOp.out [126] rfl
      have f7 := cmpB (b := false) HOp.out [43, 43, 118] rfl
      have f8 := cmpB (b := false) HOp.out [45, 45, 118] rfl
      have f9 := cmpB (b := false) HOp.out [118, 43, 43] rfl
      have f10 := cmpB (b := false) HOp.out [118, 45, 45] rfl
      have f11 := cmpB (b := false) HOp.out [63] rfl
      have f12 := cmpB (b := false) HOp.out [42] rfl
      have f13 := cmpB (b := false) HOp.out [47] rfl
      have f14 := cmpB (b := false) HOp.out [37] rfl
      have f15 := cmpB (b := false) HOp.out [43] rfl
      have f16 := cmpB (b := false) HOp.out [45] rfl
      have f17 := cmpB (b := false) HOp.out [60, 60] rfl
      have f18 := cmpB (b := false) HOp.out [62, 62] rfl
      have f19 := cmpB (b := false) HOp.out [60] rfl
      have f20 := cmpB (b := false) HOp.out [60, 61] rfl
      have f21 := cmpB (b := false) HOp.out [62] rfl
      have f22 := cmpB (b := false) HOp.out [62, 61] rfl
      have f23 := cmpB (b := false) HOp.out [61, 61] rfl
      have f24 := cmpB (b := true) HOp.out [33, 61] rfl
      clear h0
      go_enter Tryz.func40, Tryz.ntmps40
      obtain ⟨c0, c1, c2, c3, cf⟩ := F.out.cells
      go_wp2_with fail
      go_ret
      exact ⟨rfl, HB.out⟩
    · have HOp := HOp0
      have f0 := cmpB (b := false) HOp.out [110] rfl
      have f1 := cmpB (b := false) HOp.out [118] rfl
      have f2 := cmpB (b := false) HOp.out [101] rfl
      have f3 := cmpB (b := false) HOp.out [117, 45] rfl
      have f4 := cmpB (b := false) HOp.out [117, 43] rfl
      have f5 := cmpB (b := false) HOp.out [33] rfl
      have f6 := cmpB (b := false) HOp.out [126] rfl
      have f7 := cmpB (b := false) HOp.out [43, 43, 118] rfl
      have f8 := cmpB (b := false) HOp.out [45, 45, 118] rfl
      have f9 := cmpB (b := false) HOp.out [118, 43, 43] rfl
      have f10 := cmpB (b := false) HOp.out [118, 45, 45] rfl
      have f11 := cmpB (b := false) HOp.out [63] rfl
      have f12 := cmpB (b := false) HOp.out [42] rfl
      have f13 := cmpB (b := false) HOp.out [47] rfl
      have f14 := cmpB (b := false) HOp.out [37] rfl
      have f15 := cmpB (b := false) HOp.out [43] rfl
      have f16 := cmpB (b := false) HOp.out [45] rfl
      have f17 := cmpB (b := false) HOp.out [60, 60] rfl
      have f18 := cmpB (b := false) HOp.out [62, 62] rfl
      have f19 := cmpB (b := false) HOp.out [60] rfl
      have f20 := cmpB (b := false) HOp.out [60, 61] rfl
      have f21 := cmpB (b := false) HOp.out [62] rfl
      have f22 := cmpB (b := false) HOp.out [62, 61] rfl
      have f23 := cmpB (b := false) HOp.out [61, 61] rfl
      have f24 := cmpB (b := false) HOp.out [33, 61] rfl
      have f25 := cmpB (b := true) HOp.out [38] rfl
      clear h0
      go_enter Tryz.func40, Tryz.ntmps40
      obtain ⟨c0, c1, c2, c3, cf⟩ := F.out.cells
      go_wp2_with fail
      go_ret
      exact ⟨rfl, HB.out⟩
    · have HOp := HOp0
      have f0 := cmpB (b := false) HOp.out [110] rfl
      have f1 := cmpB (b := false) HOp.out [118] rfl
      have f2 := cmpB (b := false) HOp.out [101] rfl
      have f3 := cmpB (b := false) HOp.out [117, 45] rfl
      have f4 := cmpB (b := false) HOp.out [117, 43] rfl
      have f5 := cmpB (b := false) HOp.out [33] rfl
      have f6 := cmpB (b := false) HOp.out [126] rfl
      have f7 := cmpB (b := false) HOp.out [43, 43, 118] rfl
      have f8 := cmpB (b := false) HOp.out [45, 45, 118] rfl
      have f9 := cmpB (b := false) HOp.out [118, 43, 43] rfl
      have f10 := cmpB (b := false) HOp.out [118, 45, 45] rfl
      have f11 := cmpB (b := false) HOp.out [63] rfl
      have f12 := cmpB (b := false) HOp.out [42] rfl
      have f13 := cmpB (b := false) HOp.out [47] rfl
      have f14 := cmpB (b := false) HOp.out [37] rfl
      have f15 := cmpB (b := false) HOp.out [43] rfl
      have f16 := cmpB (b := false) HOp.out [45] rfl
      have f17 := cmpB (b := false) HOp.out [60, 60] rfl
      have f18 := cmpB (b := false) HOp.out [62, 62] rfl
      have f19 := cmpB (b := false) HOp.out [60] rfl
      have f20 := cmpB (b := false) HOp.out [60, 61] rfl
      have f21 := cmpB (b := false) HOp.out [62] rfl
      have f22 := cmpB (b := false) HOp.out [62, 61] rfl
      have f23 := cmpB (b := false) HOp.out [61, 61] rfl
      have f24 := cmpB (b := false) HOp.out [33, 61] rfl
      have f25 := cmpB (b := false) HOp.out [38] rfl
      have f26 := cmpB (b := true) HOp.out [94] rfl
      clear h0
      go_enter Tryz.func40, Tryz.ntmps40
      obtain ⟨c0, c1, c2, c3, cf⟩ := F.out.cells
      go_wp2_with fail
      go_ret
      exact ⟨rfl, HB.out⟩
    · have HOp := HOp0
      have f0 := cmpB (b := false) HOp.out [110] rfl
      have f1 := cmpB (b := false) HOp.out [118] rfl
      have f2 := cmpB (b := false) HOp.out [101] rfl
      have f3 := cmpB (b := false) HOp.out [117, 45] rfl
      have f4 := cmpB (b := false) HOp.out [117, 43] rfl
      have f5 := cmpB (b := false) HOp.out [33] rfl
      have f6 := cmpB (b := false) HOp.out [126] rfl
      have f7 := cmpB (b := false) HOp.out [43, 43, 118] rfl
      have f8 := cmpB (b := false) HOp.out [45, 45, 118] rfl
      have f9 := cmpB (b := false) HOp.out [118, 43, 43] rfl
      have f10 := cmpB (b := false) HOp.out [118, 45, 45] rfl
      have f11 := cmpB (b := false) HOp.out [63] rfl
      have f12 := cmpB (b := false) HOp.out [42] rfl
      have f13 := cmpB (b := false) HOp.out [47] rfl
      have f14 := cmpB (b := false) HOp.out [37] rfl
      have f15 := cmpB (b := false) HOp.out [43] rfl
      have f16 := cmpB (b := false) HOp.out [45] rfl
      have f17 := cmpB (b := false) HOp.out [60, 60] rfl
      have f18 := cmpB (b := false) HOp.out [62, 62] rfl
      have f19 := cmpB (b := false) HOp.out [60] rfl
      have f20 := cmpB (b := false) HOp.out [60, 61] rfl
      have f21 := cmpB (b := false) HOp.out [62] rfl
      have f22 := cmpB (b := false) HOp.out [62, 61] rfl
      have f23 := cmpB (b := false) HOp.out [61, 61] rfl
      have f24 := cmpB (b := false) HOp.out [33, 61] rfl
      have f25 := cmpB (b := false) HOp.out [38] rfl
      have f26 := cmpB (b := false) HOp.out [94] rfl
      have f27 := cmpB (b := true) HOp.out [124] rfl
      clear h0
      go_enter Tryz.func40, Tryz.ntmps40
      obtain ⟨c0, c1, c2, c3, cf⟩ := F.out.cells
      go_wp2_with fail
      go_ret
      exact ⟨rfl, HB.out⟩
    · have HOp := HOp0
      have f0 := cmpB (b := false) HOp.out [110] rfl
      have f1 := cmpB (b := false) HOp.out [118] rfl
      have f2 := cmpB (b := false) HOp.out [101] rfl
      have f3 := cmpB (b := false) HOp.out [117, 45] rfl
      have f4 := cmpB (b := false) HOp.out [117, 43] rfl
      have f5 := cmpB (b := false) HOp.out [33] rfl
      have f6 := cmpB (b := false) HOp.out [126] rfl
      have f7 := cmpB (b := false) HOp.out [43, 43, 118] rfl
      have f8 := cmpB (b := false) HOp.out [45, 45, 118] rfl
      have f9 := cmpB (b := false) HOp.out [118, 43, 43] rfl
      have f10 := cmpB (b := false) HOp.out [118, 45, 45] rfl
      have f11 := cmpB (b := false) HOp.out [63] rfl
      have f12 := cmpB (b := false) HOp.out [42] rfl
      have f13 := cmpB (b := false) HOp.out [47] rfl
      have f14 := cmpB (b := false) HOp.out [37] rfl
      have f15 := cmpB (b := false) HOp.out [43] rfl
      have f16 := cmpB (b := false) HOp.out [45] rfl
      have f17 := cmpB (b := false) HOp.out [60, 60] rfl
      have f18 := cmpB (b := false) HOp.out [62, 62] rfl
      have f19 := cmpB (b := false) HOp.out [60] rfl
      have f20 := cmpB (b := false) HOp.out [60, 61] rfl
      have f21 := cmpB (b := false) HOp.out [62] rfl
      have f22 := cmpB (b := false) HOp.out [62, 61] rfl
      have f23 := cmpB (b := false) HOp.out [61, 61] rfl
      have f24 := cmpB (b := false) HOp.out [33, 61] rfl
      have f25 := cmpB (b := false) HOp.out [38] rfl
      have f26 := cmpB (b := false) HOp.out [94] rfl
      have f27 := cmpB (b := false) HOp.out [124] rfl
      have f28 := cmpB (b := true) HOp.out [38, 38] rfl
      clear h0
      go_enter Tryz.func40, Tryz.ntmps40
      obtain ⟨c0, c1, c2, c3, cf⟩ := F.out.cells
      go_wp2_with fail
      go_ret
      exact ⟨rfl, HB.out⟩
    · have HOp := HOp0
      have f0 := cmpB (b := false) HOp.out [110] rfl
      have f1 := cmpB (b := false) HOp.out [118] rfl
      have f2 := cmpB (b := false) HOp.out [101] rfl
      have f3 := cmpB (b := false) HOp.out [117, 45] rfl
      have f4 := cmpB (b := false) HOp.out [117, 43] rfl
      have f5 := cmpB (b := false) HOp.out [33] rfl
      have f6 := cmpB (b := false) HOp.out [126] rfl
      have f7 := cmpB (b := false) HOp.out [43, 43, 118] rfl
      have f8 := cmpB (b := false) HOp.out [45, 45, 118] rfl
      have f9 := cmpB (b := false) HOp.out [118, 43, 43] rfl
      have f10 := cmpB (b := false) HOp.out [118, 45, 45] rfl
      have f11 := cmpB (b := false) HOp.out [63] rfl
      have f12 := cmpB (b := false) HOp.out [42] rfl
      have f13 := cmpB (b := false) HOp.out [47] rfl
      have f14 := cmpB (b := false) HOp.out [37] rfl
      have f15 := cmpB (b := false) HOp.out [43] rfl
      have f16 := cmpB (b := false) HOp.out [45] rfl
      have f17 := cmpB (b := false) HOp.out [60, 60] rfl
      have f18 := cmpB (b := false) HOp.out [62, 62] rfl
      have f19 := cmpB (b := false) HOp.out [60] rfl
      have f20 := cmpB (b := false) HOp.out [60, 61] rfl
      have f21 := cmpB (b := false) HOp.out [62] rfl
      have f22 := cmpB (b := false) HOp.out [62, 61] rfl
      have f23 := cmpB (b := false) HOp.out [61, 61] rfl
      have f24 := cmpB (b := false) HOp.out [33, 61] rfl
      have f25 := cmpB (b := false) HOp.out [38] rfl
      have f26 := cmpB (b := false) HOp.out [94] rfl
      have f27 := cmpB (b := false) HOp.out [124] rfl
      have f28 := cmpB (b := false) HOp.out [38, 38] rfl
      have f29 := cmpB (b := true) HOp.out [124, 124] rfl
      clear h0
      go_enter Tryz.func40, Tryz.ntmps40
      obtain ⟨c0, c1, c2, c3, cf⟩ := F.out.cells
      go_wp2_with fail
      go_ret
      exact ⟨rfl, HB.out⟩
    · have HOp := HOp0
      have f0 := cmpB (b := false) HOp.out [110] rfl
      have f1 := cmpB (b := false) HOp.out [118] rfl
      have f2 := cmpB (b := false) HOp.out [101] rfl
      have f3 := cmpB (b := false) HOp.out [117, 45] rfl
      have f4 := cmpB (b := false) HOp.out [117, 43] rfl
      have f5 := cmpB (b := false) HOp.out [33] rfl
      have f6 := cmpB (b := false) HOp.out [126] rfl
      have f7 := cmpB (b := false) HOp.out [43, 43, 118] rfl
      have f8 := cmpB (b := false) HOp.out [45, 45, 118] rfl
      have f9 := cmpB (b := false) HOp.out [118, 43, 43] rfl
      have f10 := cmpB (b := false) HOp.out [118, 45, 45] rfl
      have f11 := cmpB (b := false) HOp.out [63] rfl
      have f12 := cmpB (b := false) HOp.out [42] rfl
      have f13 := cmpB (b := false) HOp.out [47] rfl
      have f14 := cmpB (b := false) HOp.out [37] rfl
      have f15 := cmpB (b := false) HOp.out [43] rfl
      have f16 := cmpB (b := false) HOp.out [45] rfl
      have f17 := cmpB (b := false) HOp.out [60, 60] rfl
      have f18 := cmpB (b := false) HOp.out [62, 62] rfl
      have f19 := cmpB (b := false) HOp.out [60] rfl
      have f20 := cmpB (b := false) HOp.out [60, 61] rfl
      have f21 := cmpB (b := false) HOp.out [62] rfl
      have f22 := cmpB (b := false) HOp.out [62, 61] rfl
      have f23 := cmpB (b := false) HOp.out [61, 61] rfl
      have f24 := cmpB (b := false) HOp.out [33, 61] rfl
      have f25 := cmpB (b := false) HOp.out [38] rfl
      have f26 := cmpB (b := false) HOp.out [94] rfl
      have f27 := cmpB (b := false) HOp.out [124] rfl
      have f28 := cmpB (b := false) HOp.out [38, 38] rfl
      have f29 := cmpB (b := false) HOp.out [124, 124] rfl
      have f30 := cmpB (b := true) HOp.out [44] rfl
      clear h0
      go_enter Tryz.func40, Tryz.ntmps40
      obtain ⟨c0, c1, c2, c3, cf⟩ := F.out.cells
      go_wp2_with fail
      go_ret
      exact ⟨rfl, HB.out⟩
    · have HOp := HOp0
      have f0 := cmpB (b := false) HOp.out [110] rfl
      have f1 := cmpB (b := false) HOp.out [118] rfl
      have f2 := cmpB (b := false) HOp.out [101] rfl
      have f3 := cmpB (b := false) HOp.out [117, 45] rfl
      have f4 := cmpB (b := false) HOp.out [117, 43] rfl
      have f5 := cmpB (b := false) HOp.out [33] rfl
      have f6 := cmpB (b := false) HOp.out [126] rfl
      have f7 := cmpB (b := false) HOp.out [43, 43, 118] rfl
      have f8 := cmpB (b := false) HOp.out [45, 45, 118] rfl
      have f9 := cmpB (b := false) HOp.out [118, 43, 43] rfl
      have f10 := cmpB (b := false) HOp.out [118, 45, 45] rfl
      have f11 := cmpB (b := false) HOp.out [63] rfl
      have f12 := cmpB (b := false) HOp.out [42] rfl
      have f13 := cmpB (b := false) HOp.out [47] rfl
      have f14 := cmpB (b := false) HOp.out [37] rfl
      have f15 := cmpB (b := false) HOp.out [43] rfl
      have f16 := cmpB (b := false) HOp.out [45] rfl
      have f17 := cmpB (b := false) HOp.out [60, 60] rfl
      have f18 := cmpB (b := false) HOp.out [62, 62] rfl
      have f19 := cmpB (b := false) HOp.out [60] rfl
      have f20 := cmpB (b := false) HOp.out [60, 61] rfl
      have f21 := cmpB (b := false) HOp.out [62] rfl
      have f22 := cmpB (b := false) HOp.out [62, 61] rfl
      have f23 := cmpB (b := false) HOp.out [61, 61] rfl
      have f24 := cmpB (b := false) HOp.out [33, 61] rfl
      have f25 := cmpB (b := false) HOp.out [38] rfl
      have f26 := cmpB (b := false) HOp.out [94] rfl
      have f27 := cmpB (b := false) HOp.out [124] rfl
      have f28 := cmpB (b := false) HOp.out [38, 38] rfl
      have f29 := cmpB (b := false) HOp.out [124, 124] rfl
      have f30 := cmpB (b := false) HOp.out [44] rfl
      have f31 := cmpB (b := true) HOp.out [61] rfl
      clear h0
      go_enter Tryz.func40, Tryz.ntmps40
      obtain ⟨c0, c1, c2, c3, cf⟩ := F.out.cells
      go_wp2_with fail
      go_ret
      exact ⟨rfl, HB.out⟩
    · have HOp := HOp0
      have f0 := cmpB (b := false) HOp.out [110] rfl
      have f1 := cmpB (b := false) HOp.out [118] rfl
      have f2 := cmpB (b := false) HOp.out [101] rfl
      have f3 := cmpB (b := false) HOp.out [117, 45] rfl
      have f4 := cmpB (b := false) HOp.out [117, 43] rfl
      have f5 := cmpB (b := false) HOp.out [33] rfl
      have f6 := cmpB (b := false) HOp.out [126] rfl
      have f7 := cmpB (b := false) HOp.out [43, 43, 118] rfl
      have f8 := cmpB (b := false) HOp.out [45, 45, 118] rfl
      have f9 := cmpB (b := false) HOp.out [118, 43, 43] rfl
      have f10 := cmpB (b := false) HOp.out [118, 45, 45] rfl
      have f11 := cmpB (b := false) HOp.out [63] rfl
      have f12 := cmpB (b := false) HOp.out [42] rfl
      have f13 := cmpB (b := false) HOp.out [47] rfl
      have f14 := cmpB (b := false) HOp.out [37] rfl
      have f15 := cmpB (b := false) HOp.out [43] rfl
      have f16 := cmpB (b := false) HOp.out [45] rfl
      have f17 := cmpB (b := false) HOp.out [60, 60] rfl
      have f18 := cmpB (b := false) HOp.out [62, 62] rfl
      have f19 := cmpB (b := false) HOp.out [60] rfl
      have f20 := cmpB (b := false) HOp.out [60, 61] rfl
      have f21 := cmpB (b := false) HOp.out [62] rfl
      have f22 := cmpB (b := false) HOp.out [62, 61] rfl
      have f23 := cmpB (b := false) HOp.out [61, 61] rfl
      have f24 := cmpB (b := false) HOp.out [33, 61] rfl
      have f25 := cmpB (b := false) HOp.out [38] rfl
      have f26 := cmpB (b := false) HOp.out [94] rfl
      have f27 := cmpB (b := false) HOp.out [124] rfl
      have f28 := cmpB (b := false) HOp.out [38, 38] rfl
      have f29 := cmpB (b := false) HOp.out [124, 124] rfl
      have f30 := cmpB (b := false) HOp.out [44] rfl
      have f31 := cmpB (b := false) HOp.out [61] rfl
      have f32 := cmpB (b := true) HOp.out [42, 61] rfl
      clear h0
      go_enter Tryz.func40, Tryz.ntmps40
      obtain ⟨c0, c1, c2, c3, cf⟩ := F.out.cells
      go_wp2_with fail
      go_ret
      exact ⟨rfl, HB.out⟩
    · have HOp := HOp0
      have f0 := cmpB (b := false) HOp.out [110] rfl
      have f1 := cmpB (b := false) HOp.out [118] rfl
      have f2 := cmpB (b := false) HOp.out [101] rfl
      have f3 := cmpB (b := false) HOp.out [117, 45] rfl
      have f4 := cmpB (b := false) HOp.out [117, 43] rfl
      have f5 := cmpB (b := false) HOp.out [33] rfl
      have f6 := cmpB (b := false) HOp.out [126] rfl
      have f7 := cmpB (b := false) HOp.out [43, 43, 118] rfl
      have f8 := cmpB (b := false) HOp.out [45, 45, 118] rfl
      have f9 := cmpB (b := false) HOp.out [118, 43, 43] rfl
      have f10 := cmpB (b := false) HOp.out [118, 45, 45] rfl
      have f11 := cmpB (b := false) HOp.out [63] rfl
      have f12 := cmpB (b := false) HOp.out [42] rfl
      have f13 := cmpB (b := false) HOp.out [47] rfl
      have f14 := cmpB (b := false) HOp.out [37] rfl
      have f15 := cmpB (b := false) HOp.out [43] rfl
      have f16 := cmpB (b := false) HOp.out [45] rfl
      have f17 := cmpB (b := false) HOp.out [60, 60] rfl
      have f18 := cmpB (b := false) HOp.out [62, 62] rfl
      have f19 := cmpB (b := false) HOp.out [60] rfl
      have f20 := cmpB (b := false) HOp.out [60, 61] rfl
      have f21 := cmpB (b := false) HOp.out [62] rfl
      have f22 := cmpB (b := false) HOp.out [62, 61] rfl
      have f23 := cmpB (b := false) HOp.out [61, 61] rfl
      have f24 := cmpB (b := false) HOp.out [33, 61] rfl
      have f25 := cmpB (b := false) HOp.out [38] rfl
      have f26 := cmpB (b := false) HOp.out [94] rfl
      have f27 := cmpB (b := false) HOp.out [124] rfl
      have f28 := cmpB (b := false) HOp.out [38, 38] rfl
      have f29 := cmpB (b := false) HOp.out [124, 124] rfl
      have f30 := cmpB (b := false) HOp.out [44] rfl
      have f31 := cmpB (b := false) HOp.out [61] rfl
      have f32 := cmpB (b := false) HOp.out [42, 61] rfl
      have f33 := cmpB (b := true) HOp.out [47, 61] rfl
      clear h0
      go_enter Tryz.func40, Tryz.ntmps40
      obtain ⟨c0, c1, c2, c3, cf⟩ := F.out.cells
      go_wp2_with fail
      go_ret
      exact ⟨rfl, HB.out⟩
    · have HOp := HOp0
      have f0 := cmpB (b := false) HOp.out [110] rfl
      have f1 := cmpB (b := false) HOp.out [118] rfl
      have f2 := cmpB (b := false) HOp.out [101] rfl
      have f3 := cmpB (b := false) HOp.out [117, 45] rfl
      have f4 := cmpB (b := false) HOp.out [117, 43] rfl
      have f5 := cmpB (b := false) HOp.out [33] rfl
      have f6 := cmpB (b := false) HOp.out [126] rfl
      have f7 := cmpB (b := false) HOp.out [43, 43, 118] rfl
      have f8 := cmpB (b := false) HOp.out [45, 45, 118] rfl
      have f9 := cmpB (b := false) HOp.out [118, 43, 43] rfl
      have f10 := cmpB (b := false) HOp.out [118, 45, 45] rfl
      have f11 := cmpB (b := false) HOp.out [63] rfl
      have f12 := cmpB (b := false) HOp.out [42] rfl
      have f13 := cmpB (b := false) HOp.out [47] rfl
      have f14 := cmpB (b := false) HOp.out [37] rfl
      have f15 := cmpB (b := false) HOp.out [43] rfl
      have f16 := cmpB (b := false) HOp.out [45] rfl
      have f17 := cmpB (b := false) HOp.out [60, 60] rfl
      have f18 := cmpB (b := false) HOp.out [62, 62] rfl
      have f19 := cmpB (b := false) HOp.out [60] rfl
      have f20 := cmpB (b := false) HOp.out [60, 61] rfl
      have f21 := cmpB (b := false) HOp.out [62] rfl
      have f22 := cmpB (b := false) HOp.out [62, 61] rfl
      have f23 := cmpB (b := false) HOp.out [61, 61] rfl
      have f24 := cmpB (b := false) HOp.out [33, 61] rfl
      have f25 := cmpB (b := false) HOp.out [38] rfl
      have f26 := cmpB (b := false) HOp.out [94] rfl
      have f27 := cmpB (b := false) HOp.out [124] rfl
      have f28 := cmpB (b := false) HOp.out [38, 38] rfl
      have f29 := cmpB (b := false) HOp.out [124, 124] rfl
      have f30 := cmpB (b := false) HOp.out [44] rfl
      have f31 := cmpB (b := false) HOp.out [61] rfl
      have f32 := cmpB (b := false) HOp.out [42, 61] rfl
      have f33 := cmpB (b := false) HOp.out [47, 61] rfl
      have f34 := cmpB (b := true) HOp.out [37, 61] rfl
      clear h0
      go_enter Tryz.func40, Tryz.ntmps40
      obtain ⟨c0, c1, c2, c3, cf⟩ := F.out.cells
      go_wp2_with fail
      go_ret
      exact ⟨rfl, HB.out⟩
    · have HOp := HOp0
      have f0 := cmpB (b := false) HOp.out [110] rfl
      have f1 := cmpB (b := false) HOp.out [118] rfl
      have f2 := cmpB (b := false) HOp.out [101] rfl
      have f3 := cmpB (b := false) HOp.out [117, 45] rfl
      have f4 := cmpB (b := false) HOp.out [117, 43] rfl
      have f5 := cmpB (b := false) HOp.out [33] rfl
      have f6 := cmpB (b := false) HOp.out [126] rfl
      have f7 := cmpB (b := false) HOp.out [43, 43, 118] rfl
      have f8 := cmpB (b := false) HOp.out [45, 45, 118] rfl
      have f9 := cmpB (b := false) HOp.out [118, 43, 43] rfl
      have f10 := cmpB (b := false) HOp.out [118, 45, 45] rfl
      have f11 := cmpB (b := false) HOp.out [63] rfl
      have f12 := cmpB (b := false) HOp.out [42] rfl
      have f13 := cmpB (b := false) HOp.out [47] rfl
      have f14 := cmpB (b := false) HOp.out [37] rfl
      have f15 := cmpB (b := false) HOp.out [43] rfl
      have f16 := cmpB (b := false) HOp.out [45] rfl
      have f17 := cmpB (b := false) HOp.out [60, 60] rfl
      have f18 := cmpB (b := false) HOp.out [62, 62] rfl
      have f19 := cmpB (b := false) HOp.out [60] rfl
      have f20 := cmpB (b := false) HOp.out [60, 61] rfl
      have f21 := cmpB (b := false) HOp.out [62] rfl
      have f22 := cmpB (b := false) HOp.out [62, 61] rfl
      have f23 := cmpB (b := false) HOp.out [61, 61] rfl
      have f24 := cmpB (b := false) HOp.out [33, 61] rfl
      have f25 := cmpB (b := false) HOp.out [38] rfl
      have f26 := cmpB (b := false) HOp.out [94] rfl
      have f27 := cmpB (b := false) HOp.out [124] rfl
      have f28 := cmpB (b := false) HOp.out [38, 38] rfl
      have f29 := cmpB (b := false) HOp.out [124, 124] rfl
      have f30 := cmpB (b := false) HOp.out [44] rfl
      have f31 := cmpB (b := false) HOp.out [61] rfl
      have f32 := cmpB (b := false) HOp.out [42, 61] rfl
      have f33 := cmpB (b := false) HOp.out [47, 61] rfl
      have f34 := cmpB (b := false) HOp.out [37, 61] rfl
      have f35 := cmpB (b := true) HOp.out [43, 61] rfl
      clear h0
      go_enter Tryz.func40, Tryz.ntmps40
      obtain ⟨c0, c1, c2, c3, cf⟩ := F.out.cells
      go_wp2_with fail
      go_ret
      exact ⟨rfl, HB.out⟩
    · have HOp := HOp0
      have f0 := cmpB (b := false) HOp.out [110] rfl
      have f1 := cmpB (b := false) HOp.out [118] rfl
      have f2 := cmpB (b := false) HOp.out [101] rfl
      have f3 := cmpB (b := false) HOp.out [117, 45] rfl
      have f4 := cmpB (b := false) HOp.out [117, 43] rfl
      have f5 := cmpB (b := false) HOp.out [33] rfl
      have f6 := cmpB (b := false) HOp.out [126] rfl
      have f7 := cmpB (b := false) HOp.out [43, 43, 118] rfl
      have f8 := cmpB (b := false) HOp.out [45, 45, 118] rfl
      have f9 := cmpB (b := false) HOp.out [118, 43, 43] rfl
      have f10 := cmpB (b := false) HOp.out [118, 45, 45] rfl
      have f11 := cmpB (b := false) HOp.out [63] rfl
      have f12 := cmpB (b := false) HOp.out [42] rfl
      have f13 := cmpB (b := false) HOp.out [47] rfl
      have f14 := cmpB (b := false) HOp.out [37] rfl
      have f15 := cmpB (b := false) HOp.out [43] rfl
      have f16 := cmpB (b := false) HOp.out [45] rfl
      have f17 := cmpB (b := false) HOp.out [60, 60] rfl
      have f18 := cmpB (b := false) HOp.out [62, 62] rfl
      have f19 := cmpB (b := false) HOp.out [60] rfl
      have f20 := cmpB (b := false) HOp.out [60, 61] rfl
      have f21 := cmpB (b := false) HOp.out [62] rfl
      have f22 := cmpB (b := false) HOp.out [62, 61] rfl
      have f23 := cmpB (b := false) HOp.out [61, 61] rfl
      have f24 := cmpB (b := false) HOp.out [33, 61] rfl
      have f25 := cmpB (b := false) HOp.out [38] rfl
      have f26 := cmpB (b := false) HOp.out [94] rfl
      have f27 := cmpB (b := false) HOp.out [124] rfl
      have f28 := cmpB (b := false) HOp.out [38, 38] rfl
      have f29 := cmpB (b := false) HOp.out [124, 124] rfl
      have f30 := cmpB (b := false) HOp.out [44] rfl
      have f31 := cmpB (b := false) HOp.out [61] rfl
      have f32 := cmpB (b := false) HOp.out [42, 61] rfl
      have f33 := cmpB (b := false) HOp.out [47, 61] rfl
      have f34 := cmpB (b := false) HOp.out [37, 61] rfl
      have f35 := cmpB (b := false) HOp.out [43, 61] rfl
      have f36 := cmpB (b := true) HOp.out [45, 61] rfl
      clear h0
      go_enter Tryz.func40, Tryz.ntmps40
      obtain ⟨c0, c1, c2, c3, cf⟩ := F.out.cells
      go_wp2_with fail
      go_ret
      exact ⟨rfl, HB.out⟩
    · have HOp := HOp0
      have f0 := cmpB (b := false) HOp.out [110] rfl
      have f1 := cmpB (b := false) HOp.out [118] rfl
      have f2 := cmpB (b := false) HOp.out [101] rfl
      have f3 := cmpB (b := false) HOp.out [117, 45] rfl
      have f4 := cmpB (b := false) HOp.out [117, 43] rfl
      have f5 := cmpB (b := false) HOp.out [33] rfl
      have f6 := cmpB (b := false) HOp.out [126] rfl
      have f7 := cmpB (b := false) HOp.out [43, 43, 118] rfl
      have f8 := cmpB (b := false) HOp.out [45, 45, 118] rfl
      have f9 := cmpB (b := false) HOp.out [118, 43, 43] rfl
      have f10 := cmpB (b := false) HOp.out [118, 45, 45] rfl
      have f11 := cmpB (b := false) HOp.out [63] rfl
      have f12 := cmpB (b := false) HOp.out [42] rfl
      have f13 := cmpB (b := false) HOp.out [47] rfl
      have f14 := cmpB (b := false) HOp.out [37] rfl
      have f15 := cmpB (b := false) HOp.out [43] rfl
      have f16 := cmpB (b := false) HOp.out [45] rfl
      have f17 := cmpB (b := false) HOp.out [60, 60] rfl
      have f18 := cmpB (b := false) HOp.out [62, 62] rfl
      have f19 := cmpB (b := false) HOp.out [60] rfl
      have f20 := cmpB (b := false) HOp.out [60, 61] rfl
      have f21 := cmpB (b := false) HOp.out [62] rfl
      have f22 := cmpB (b := false) HOp.out [62, 61] rfl
      have f23 := cmpB (b := false) HOp.out [61, 61] rfl
      have f24 := cmpB (b := false) HOp.out [33, 61] rfl
      have f25 := cmpB (b := false) HOp.out [38] rfl
      have f26 := cmpB (b := false) HOp.out [94] rfl
      have f27 := cmpB (b := false) HOp.out [124] rfl
      have f28 := cmpB (b := false) HOp.out [38, 38] rfl
      have f29 := cmpB (b := false) HOp.out [124, 124] rfl
      have f30 := cmpB (b := false) HOp.out [44] rfl
      have f31 := cmpB (b := false) HOp.out [61] rfl
      have f32 := cmpB (b := false) HOp.out [42, 61] rfl
      have f33 := cmpB (b := false) HOp.out [47, 61] rfl
      have f34 := cmpB (b := false) HOp.out [37, 61] rfl
      have f35 := cmpB (b := false) HOp.out [43, 61] rfl
      have f36 := cmpB (b := false) HOp.out [45, 61] rfl
      have f37 := cmpB (b := true) HOp.out [60, 60, 61] rfl
      clear h0
      go_enter Tryz.func40, Tryz.ntmps40
      obtain ⟨c0, c1, c2, c3, cf⟩ := F.out.cells
      go_wp2_with fail
      go_ret
      exact ⟨rfl, HB.out⟩
    · have HOp := HOp0
      have f0 := cmpB (b := false) HOp.out [110] rfl
      have f1 := cmpB (b := false) HOp.out [118] rfl
      have f2 := cmpB (b := false) HOp.out [101] rfl
      have f3 := cmpB (b := false) HOp.out [117, 45] rfl
      have f4 := cmpB (b := false) HOp.out [117, 43] rfl
      have f5 := cmpB (b := false) HOp.out [33] rfl
      have f6 := cmpB (b := false) HOp.out [126] rfl
      have f7 := cmpB (b := false) HOp.out [43, 43, 118] rfl
      have f8 := cmpB (b := false) HOp.out [45, 45, 118] rfl
      have f9 := cmpB (b := false) HOp.out [118, 43, 43] rfl
      have f10 := cmpB (b := false) HOp.out [118, 45, 45] rfl
      have f11 := cmpB (b := false) HOp.out [63] rfl
      have f12 := cmpB (b := false) HOp.out [42] rfl
      have f13 := cmpB (b := false) HOp.out [47] rfl
      have f14 := cmpB (b := false) HOp.out [37] rfl
      have f15 := cmpB (b := false) HOp.out [43] rfl
      have f16 := cmpB (b := false) HOp.out [45] rfl
      have f17 := cmpB (b := false) HOp.out [60, 60] rfl
      have f18 := cmpB (b := false) HOp.out [62, 62] rfl
      have f19 := cmpB (b := false) HOp.out [60] rfl
      have f20 := cmpB (b := false) HOp.out [60, 61] rfl
      have f21 := cmpB (b := false) HOp.out [62] rfl
      have f22 := cmpB (b := false) HOp.out [62, 61] rfl
      have f23 := cmpB (b := false) HOp.out [61, 61] rfl
      have f24 := cmpB (b := false) HOp.out [33, 61] rfl
      have f25 := cmpB (b := false) HOp.out [38] rfl
      have f26 := cmpB (b := false) HOp.out [94] rfl
      have f27 := cmpB (b := false) HOp.out [124] rfl
      have f28 := cmpB (b := false) HOp.out [38, 38] rfl
      have f29 := cmpB (b := false) HOp.out [124, 124] rfl
      have f30 := cmpB (b := false) HOp.out [44] rfl
      have f31 := cmpB (b := false) HOp.out [61] rfl
      have f32 := cmpB (b := false) HOp.out [42, 61] rfl
      have f33 := cmpB (b := false) HOp.out [47, 61] rfl
      have f34 := cmpB (b := false) HOp.out [37, 61] rfl
      have f35 := cmpB (b := false) HOp.out [43, 61] rfl
      have f36 := cmpB (b := false) HOp.out [45, 61] rfl
      have f37 := cmpB (b := false) HOp.out [60, 60, 61] rfl
      have f38 := cmpB (b := true) HOp.out [62, 62, 61] rfl
      clear h0
      go_enter Tryz.func40, Tryz.ntmps40
      obtain ⟨c0, c1, c2, c3, cf⟩ := F.out.cells
      go_wp2_with fail
      go_ret
      exact ⟨rfl, HB.out⟩
    · have HOp := HOp0
      have f0 := cmpB (b := false) HOp.out [110] rfl
      have f1 := cmpB (b := false) HOp.out [118] rfl
      have f2 := cmpB (b := false) HOp.out [101] rfl
      have f3 := cmpB (b := false) HOp.out [117, 45] rfl
      have f4 := cmpB (b := false) HOp.out [117, 43] rfl
      have f5 := cmpB (b := false) HOp.out [33] rfl
      have f6 := cmpB (b := false) HOp.out [126] rfl
      have f7 := cmpB (b := false) HOp.out [43, 43, 118] rfl
      have f8 := cmpB (b := false) HOp.out [45, 45, 118] rfl
      have f9 := cmpB (b := false) HOp.out [118, 43, 43] rfl
      have f10 := cmpB (b := false) HOp.out [118, 45, 45] rfl
      have f11 := cmpB (b := false) HOp.out [63] rfl
      have f12 := cmpB (b := false) HOp.out [42] rfl
      have f13 := cmpB (b := false) HOp.out [47] rfl
      have f14 := cmpB (b := false) HOp.out [37] rfl
      have f15 := cmpB (b := false) HOp.out [43] rfl
      have f16 := cmpB (b := false) HOp.out [45] rfl
      have f17 := cmpB (b := false) HOp.out [60, 60] rfl
      have f18 := cmpB (b := false) HOp.out [62, 62] rfl
      have f19 := cmpB (b := false) HOp.out [60] rfl
      have f20 := cmpB (b := false) HOp.out [60, 61] rfl
      have f21 := cmpB (b := false) HOp.out [62] rfl
      have f22 := cmpB (b := false) HOp.out [62, 61] rfl
      have f23 := cmpB (b := false) HOp.out [61, 61] rfl
      have f24 := cmpB (b := false) HOp.out [33, 61] rfl
      have f25 := cmpB (b := false) HOp.out [38] rfl
      have f26 := cmpB (b := false) HOp.out [94] rfl
      have f27 := cmpB (b := false) HOp.out [124] rfl
      have f28 := cmpB (b := false) HOp.out [38, 38] rfl
      have f29 := cmpB (b := false) HOp.out [124, 124] rfl
      have f30 := cmpB (b := false) HOp.out [44] rfl
      have f31 := cmpB (b := false) HOp.out [61] rfl
      have f32 := cmpB (b := false) HOp.out [42, 61] rfl
      have f33 := cmpB (b := false) HOp.out [47, 61] rfl
      have f34 := cmpB (b := false) HOp.out [37, 61] rfl
      have f35 := cmpB (b := false) HOp.out [43, 61] rfl
      have f36 := cmpB (b := false) HOp.out [45, 61] rfl
      have f37 := cmpB (b := false) HOp.out [60, 60, 61] rfl
      have f38 := cmpB (b := false) HOp.out [62, 62, 61] rfl
      have f39 := cmpB (b := true) HOp.out [38, 61] rfl
      clear h0
      go_enter Tryz.func40, Tryz.ntmps40
      obtain ⟨c0, c1, c2, c3, cf⟩ := F.out.cells
      go_wp2_with fail
      go_ret
      exact ⟨rfl, HB.out⟩
    · have HOp := HOp0
      have f0 := cmpB (b := false) HOp.out [110] rfl
      have f1 := cmpB (b := false) HOp.out [118] rfl
      have f2 := cmpB (b := false) HOp.out [101] rfl
      have f3 := cmpB (b := false) HOp.out [117, 45] rfl
      have f4 := cmpB (b := false) HOp.out [117, 43] rfl
      have f5 := cmpB (b := false) HOp.out [33] rfl
      have f6 := cmpB (b := false) HOp.out [126] rfl
      have f7 := cmpB (b := false) HOp.out [43, 43, 118] rfl
      have f8 := cmpB (b := false) HOp.out [45, 45, 118] rfl
      have f9 := cmpB (b := false) HOp.out [118, 43, 43] rfl
      have f10 := cmpB (b := false) HOp.out [118, 45, 45] rfl
      have f11 := cmpB (b := false) HOp.out [63] rfl
      have f12 := cmpB (b := false) HOp.out [42] rfl
      have f13 := cmpB (b := false) HOp.out [47] rfl
      have f14 := cmpB (b := false) HOp.out [37] rfl
      have f15 := cmpB (b := false) HOp.out [43] rfl
      have f16 := cmpB (b := false) HOp.out [45] rfl
      have f17 := cmpB (b := false) HOp.out [60, 60] rfl
      have f18 := cmpB (b := false) HOp.out [62, 62] rfl
      have f19 := cmpB (b := false) HOp.out [60] rfl
      have f20 := cmpB (b := false) HOp.out [60, 61] rfl
      have f21 := cmpB (b := false) HOp.out [62] rfl
      have f22 := cmpB (b := false) HOp.out [62, 61] rfl
      have f23 := cmpB (b := false) HOp.out [61, 61] rfl
      have f24 := cmpB (b := false) HOp.out [33, 61] rfl
      have f25 := cmpB (b := false) HOp.out [38] rfl
      have f26 := cmpB (b := false) HOp.out [94] rfl
      have f27 := cmpB (b := false) HOp.out [124] rfl
      have f28 := cmpB (b := false) HOp.out [38, 38] rfl
      have f29 := cmpB (b := false) HOp.out [124, 124] rfl
      have f30 := cmpB (b := false) HOp.out [44] rfl
      have f31 := cmpB (b := false) HOp.out [61] rfl
      have f32 := cmpB (b := false) HOp.out [42, 61] rfl
      have f33 := cmpB (b := false) HOp.out [47, 61] rfl
      have f34 := cmpB (b := false) HOp.out [37, 61] rfl
      have f35 := cmpB (b := false) HOp.out [43, 61] rfl
      have f36 := cmpB (b := false) HOp.out [45, 61] rfl
      have f37 := cmpB (b := false) HOp.out [60, 60, 61] rfl
      have f38 := cmpB (b := false) HOp.out [62, 62, 61] rfl
      have f39 := cmpB (b := false) HOp.out [38, 61] rfl
      have f40 := cmpB (b := true) HOp.out [94, 61] rfl
      clear h0
      go_enter Tryz.func40, Tryz.ntmps40
      obtain ⟨c0, c1, c2, c3, cf⟩ := F.out.cells
      go_wp2_with fail
      go_ret
      exact ⟨rfl, HB.out⟩
    · have HOp := HOp0
      have f0 := cmpB (b := false) HOp.out [110] rfl
      have f1 := cmpB (b := false) HOp.out [118] rfl
      have f2 := cmpB (b := false) HOp.out [101] rfl
      have f3 := cmpB (b := false) HOp.out [117, 45] rfl
      have f4 := cmpB (b := false) HOp.out [117, 43] rfl
      have f5 := cmpB (b := false) HOp.out [33] rfl
      have f6 := cmpB (b := false) HOp.out [126] rfl
      have f7 := cmpB (b := false) HOp.out [43, 43, 118] rfl
      have f8 := cmpB (b := false) HOp.out [45, 45, 118] rfl
      have f9 := cmpB (b := false) HOp.out [118, 43, 43] rfl
      have f10 := cmpB (b := false) HOp.out [118, 45, 45] rfl
      have f11 := cmpB (b := false) HOp.out [63] rfl
      have f12 := cmpB (b := false) HOp.out [42] rfl
      have f13 := cmpB (b := false) HOp.out [47] rfl
      have f14 := cmpB (b := false) HOp.out [37] rfl
      have f15 := cmpB (b := false) HOp.out [43] rfl
      have f16 := cmpB (b := false) HOp.out [45] rfl
      have f17 := cmpB (b := false) HOp.out [60, 60] rfl
      have f18 := cmpB (b := false) HOp.out [62, 62] rfl
      have f19 := cmpB (b := false) HOp.out [60] rfl
      have f20 := cmpB (b := false) HOp.out [60, 61] rfl
      have f21 := cmpB (b := false) HOp.out [62] rfl
      have f22 := cmpB (b := false) HOp.out [62, 61] rfl
      have f23 := cmpB (b := false) HOp.out [61, 61] rfl
      have f24 := cmpB (b := false) HOp.out [33, 61] rfl
      have f25 := cmpB (b := false) HOp.out [38] rfl
      have f26 := cmpB (b := false) HOp.out [94] rfl
      have f27 := cmpB (b := false) HOp.out [124] rfl
      have f28 := cmpB (b := false) HOp.out [38, 38] rfl
      have f29 := cmpB (b := false) HOp.out [124, 124] rfl
      have f30 := cmpB (b := false) HOp.out [44] rfl
      have f31 := cmpB (b := false) HOp.out [61] rfl
      have f32 := cmpB (b := false) HOp.out [42, 61] rfl
      have f33 := cmpB (b := false) HOp.out [47, 61] rfl
      have f34 := cmpB (b := false) HOp.out [37, 61] rfl
      have f35 := cmpB (b := false) HOp.out [43, 61] rfl
      have f36 := cmpB (b := false) HOp.out [45, 61] rfl
      have f37 := cmpB (b := false) HOp.out [60, 60, 61] rfl
      have f38 := cmpB (b := false) HOp.out [62, 62, 61] rfl
      have f39 := cmpB (b := false) HOp.out [38, 61] rfl
      have f40 := cmpB (b := false) HOp.out [94, 61] rfl
      have f41 := cmpB (b := true) HOp.out [124, 61] rfl
      clear h0
      go_enter Tryz.func40, Tryz.ntmps40
      obtain ⟨c0, c1, c2, c3, cf⟩ := F.out.cells
      go_wp2_with fail
      go_ret
      exact ⟨rfl, HB.out⟩
  · have HNe := Lib.hid hne
    have f0 : ((toB op).toList == [110]) = false := by rw [toB_toList]; exact HNe.out [110] (by simp)
    have f1 : ((toB op).toList == [118]) = false := by rw [toB_toList]; exact HNe.out [118] (by simp)
    have f2 : ((toB op).toList == [101]) = false := by rw [toB_toList]; exact HNe.out [101] (by simp)
    have f3 : ((toB op).toList == [117, 45]) = false := by rw [toB_toList]; exact HNe.out [117, 45] (by simp)
    have f4 : ((toB op).toList == [117, 43]) = false := by rw [toB_toList]; exact HNe.out [117, 43] (by simp)
    have f5 : ((toB op).toList == [33]) = false := by rw [toB_toList]; exact HNe.out [33] (by simp)
    have f6 : ((toB op).toList == [126]) = false := by rw [toB_toList]; exact HNe.out [126] (by simp)
    have f7 : ((toB op).toList == [43, 43, 118]) = false := by rw [toB_toList]; exact HNe.out [43, 43, 118] (by simp)
    have f8 : ((toB op).toList == [45, 45, 118]) = false := by rw [toB_toList]; exact HNe.out [45, 45, 118] (by simp)
    have f9 : ((toB op).toList == [118, 43, 43]) = false := by rw [toB_toList]; exact HNe.out [118, 43, 43] (by simp)
    have f10 : ((toB op).toList == [118, 45, 45]) = false := by rw [toB_toList]; exact HNe.out [118, 45, 45] (by simp)
    have f11 : ((toB op).toList == [63]) = false := by rw [toB_toList]; exact HNe.out [63] (by simp)
    have f12 : ((toB op).toList == [42]) = false := by rw [toB_toList]; exact HNe.out [42] (by simp)
    have f13 : ((toB op).toList == [47]) = false := by rw [toB_toList]; exact HNe.out [47] (by simp)
    have f14 : ((toB op).toList == [37]) = false := by rw [toB_toList]; exact HNe.out [37] (by simp)
    have f15 : ((toB op).toList == [43]) = false := by rw [toB_toList]; exact HNe.out [43] (by simp)
    have f16 : ((toB op).toList == [45]) = false := by rw [toB_toList]; exact HNe.out [45] (by simp)
    have f17 : ((toB op).toList == [60, 60]) = false := by rw [toB_toList]; exact HNe.out [60, 60] (by simp)
    have f18 : ((toB op).toList == [62, 62]) = false := by rw [toB_toList]; exact HNe.out [62, 62] (by simp)
    have f19 : ((toB op).toList == [60]) = false := by rw [toB_toList]; exact HNe.out [60] (by simp)
    have f20 : ((toB op).toList == [60, 61]) = false := by rw [toB_toList]; exact HNe.out [60, 61] (by simp)
    have f21 : ((toB op).toList == [62]) = false := by rw [toB_toList]; exact HNe.out [62] (by simp)
    have f22 : ((toB op).toList == [62, 61]) = false := by rw [toB_toList]; exact HNe.out [62, 61] (by simp)
    have f23 : ((toB op).toList == [61, 61]) = false := by rw [toB_toList]; exact HNe.out [61, 61] (by simp)
    have f24 : ((toB op).toList == [33, 61]) = false := by rw [toB_toList]; exact HNe.out [33, 61] (by simp)
    have f25 : ((toB op).toList == [38]) = false := by rw [toB_toList]; exact HNe.out [38] (by simp)
    have f26 : ((toB op).toList == [94]) = false := by rw [toB_toList]; exact HNe.out [94] (by simp)
    have f27 : ((toB op).toList == [124]) = false := by rw [toB_toList]; exact HNe.out [124] (by simp)
    have f28 : ((toB op).toList == [38, 38]) = false := by rw [toB_toList]; exact HNe.out [38, 38] (by simp)
    have f29 : ((toB op).toList == [124, 124]) = false := by rw [toB_toList]; exact HNe.out [124, 124] (by simp)
    have f30 : ((toB op).toList == [44]) = false := by rw [toB_toList]; exact HNe.out [44] (by simp)
    have f31 : ((toB op).toList == [61]) = false := by rw [toB_toList]; exact HNe.out [61] (by simp)
    have f32 : ((toB op).toList == [42, 61]) = false := by rw [toB_toList]; exact HNe.out [42, 61] (by simp)
    have f33 : ((toB op).toList == [47, 61]) = false := by rw [toB_toList]; exact HNe.out [47, 61] (by simp)
    have f34 : ((toB op).toList == [37, 61]) = false := by rw [toB_toList]; exact HNe.out [37, 61] (by simp)
    have f35 : ((toB op).toList == [43, 61]) = false := by rw [toB_toList]; exact HNe.out [43, 61] (by simp)
    have f36 : ((toB op).toList == [45, 61]) = false := by rw [toB_toList]; exact HNe.out [45, 61] (by simp)
    have f37 : ((toB op).toList == [60, 60, 61]) = false := by rw [toB_toList]; exact HNe.out [60, 60, 61] (by simp)
    have f38 : ((toB op).toList == [62, 62, 61]) = false := by rw [toB_toList]; exact HNe.out [62, 62, 61] (by simp)
    have f39 : ((toB op).toList == [38, 61]) = false := by rw [toB_toList]; exact HNe.out [38, 61] (by simp)
    have f40 : ((toB op).toList == [94, 61]) = false := by rw [toB_toList]; exact HNe.out [94, 61] (by simp)
    have f41 : ((toB op).toList == [124, 61]) = false := by rw [toB_toList]; exact HNe.out [124, 61] (by simp)
    clear h0 hne
    go_enter Tryz.func40, Tryz.ntmps40
    obtain ⟨c0, c1, c2, c3, cf⟩ := F.out.cells
    go_wp2_with fail
    go_ret
    exact ⟨rfl, HB.out⟩

end Go.Proofs.YtiigclkebnmopaaGreatDoor

namespace Go.Proofs.YtiigclkebnmopaaGreatDoor
open Go.RowKit Go.Shelf

theorem shaped_node_eq {op : List UInt8} {l : List Ex} (h : leafO op = false) (h1 : arO op = l.length) (h2 : l.length ≠ 0) : shaped (.mk op 0 [] l) = (shapeds l && (!setsO op || tgt l)) := by
  unfold leafO at h
  simp at h
  conv => lhs; unfold shaped
  rw [if_neg h.1.1, if_neg h.1.2, if_neg h.2, h1, show (l.length != 0) = true from bne_iff_ne.2 h2]
  simp
theorem toB_data (l : List UInt8) : (toB l).data.toList = l := rfl
theorem lit4 (w : World) : TX (w.alloc (.cells #[.string ⟨#[60, 61]⟩, .string ⟨#[62, 61]⟩, .string ⟨#[61, 61]⟩, .string ⟨#[33, 61]⟩] 9)) w.heap.size 0 [[60, 61], [62, 61], [61, 61], [33, 61]] := by
  have hh := heap_alloc_new w (.cells #[.string ⟨#[60, 61]⟩, .string ⟨#[62, 61]⟩, .string ⟨#[61, 61]⟩, .string ⟨#[33, 61]⟩] 9)
  intro j hj
  unfold World.cell?
  dsimp only
  rw [hh, Nat.zero_add]
  match j, hj with
  | 0, _ => rfl
  | 1, _ => rfl
  | 2, _ => rfl
  | 3, _ => rfl

set_option maxRecDepth 100000 in
set_option maxHeartbeats 6400000 in
theorem rshape_un (P : Nat → Prop) (op : List UInt8) (hop : op ∈ ([[117, 45], [117, 43], [33], [126]] : List (List UInt8))) (y0 : Ex) (IH : ∀ y ∈ [y0], RSh P y) : RSh P (.mk op 0 [] [y0]) := by
  intro v w hx
  obtain ⟨A, c, rfl, _, hA⟩ := hx.parts
  have hfc : leafO op = false ∧ arO op = 1 ∧ setsO op = false := by
    have : ∀ op ∈ ([[117, 45], [117, 43], [33], [126]] : List (List UInt8)), leafO op = false ∧ arO op = 1 ∧ setsO op = false := by decide
    exact this op hop
  have HS := Lib.hid (show shaped (.mk op 0 [] [y0]) = shapeds [y0] by
    rw [shaped_node_eq (l := [y0]) hfc.1 hfc.2.1 (by simp), hfc.2.2]
    simp)
  have ba := (Below.refl w.heap.size w).alloc (Nat.le_refl _) (.cells #[.string (toB op), .int .i64 0, .string (toB []), .slice A [y0].length c] 25)
  have HB := Lib.hid ba
  have F := Lib.hid (Four.new w (.string (toB op)) (.int .i64 0) (.string (toB [])) (.slice A [y0].length c))
  have HC := Lib.hid (fun W (hb : Below w.heap.size w W) => rcontains_any P A c [y0] W (hA.below hb) (by simp) IH)
  have hem : (toB []).toList.isEmpty = true := by rw [toB_toList]; rfl
  have hem2 : ((toB []).toList == []) = true := by rw [toB_toList]; rfl
  have hszO : (toB op).size ≤ 1000 := by
    have : ∀ op ∈ ([[117, 45], [117, 43], [33], [126]] : List (List UInt8)), op.length ≤ 3 := by decide
    have := this op hop
    rw [toB_size]
    omega
  obtain ⟨L, hL, hop2⟩ : ∃ L ∈ ([[117, 45], [117, 43], [33], [126]] : List (List UInt8)), op = L := ⟨op, hop, rfl⟩
  have HOp := Lib.hid hop2
  simp only [List.mem_cons, List.not_mem_nil, or_false] at hL
  clear hop hop2 hx IH hA ba hfc
  rcases hL with rfl | rfl | rfl | rfl
  · have hsf : Lib.hasSuffix (toB op).data.toList (⟨#[61]⟩ : ByteArray).data.toList = false := by rw [toB_data, HOp.out]; rfl
    have hcv : decide (0 ≤ Lib.indexByte (toB op).data.toList 118) = false := by rw [toB_data, HOp.out]; rfl
    have f0 := cmpB (b := false) HOp.out [110] rfl
    have f1 := cmpB (b := false) HOp.out [118] rfl
    have f2 := cmpB (b := false) HOp.out [101] rfl
    have f3 := cmpB (b := true) HOp.out [117, 45] rfl
    go_enter Tryz.func40, Tryz.ntmps40
    obtain ⟨c0, c1, c2, c3, cf⟩ := F.out.cells
    go_wp2_with fail
    refine (HC.out _ HB.out).mono ?_
    rintro e w2 ⟨rfl, hb2⟩
    have HB2 := Lib.hid (HB.out.trans (hb2.mono HB.out.size))
    have F2 := Lib.hid (Four.keep F.out hb2)
    have hlt2 := F2.out.lt
    obtain ⟨d0, d1, d2, d3, df⟩ := F2.out.cells
    clear hb2 c0 c1 c2 c3 cf
    cases hs : shapeds [y0] with
    | false =>
      have HSS := Lib.hid hs
      clear hs
      go_wp2_with fail
      go_ret
      exact ⟨by rw [HS.out, HSS.out]; rfl, HB2.out⟩
    | true =>
      have HSS := Lib.hid hs
      clear hs
      go_wp2_with fail
      refine (Tryz.strings_HasSuffix (toB op) ⟨#[61]⟩ _ (by omega)).mono ?_
      rintro e w3 ⟨rfl, rfl⟩
      rw [hsf]
      go_wp2_with fail
      refine (Tryz.strings_Contains_one (toB op) 118 _).mono ?_
      rintro e w4 ⟨rfl, rfl⟩
      rw [hcv]
      go_wp2_with fail
      go_ret
      exact ⟨by rw [HS.out, HSS.out]; rfl, HB2.out⟩
  · have hsf : Lib.hasSuffix (toB op).data.toList (⟨#[61]⟩ : ByteArray).data.toList = false := by rw [toB_data, HOp.out]; rfl
    have hcv : decide (0 ≤ Lib.indexByte (toB op).data.toList 118) = false := by rw [toB_data, HOp.out]; rfl
    have f0 := cmpB (b := false) HOp.out [110] rfl
    have f1 := cmpB (b := false) HOp.out [118] rfl
    have f2 := cmpB (b := false) HOp.out [101] rfl
    have f3 := cmpB (b := false) HOp.out [117, 45] rfl
    have f4 := cmpB (b := true) HOp.out [117, 43] rfl
    go_enter Tryz.func40, Tryz.ntmps40
    obtain ⟨c0, c1, c2, c3, cf⟩ := F.out.cells
    go_wp2_with fail
    refine (HC.out _ HB.out).mono ?_
    rintro e w2 ⟨rfl, hb2⟩
    have HB2 := Lib.hid (HB.out.trans (hb2.mono HB.out.size))
    have F2 := Lib.hid (Four.keep F.out hb2)
    have hlt2 := F2.out.lt
    obtain ⟨d0, d1, d2, d3, df⟩ := F2.out.cells
    clear hb2 c0 c1 c2 c3 cf
    cases hs : shapeds [y0] with
    | false =>
      have HSS := Lib.hid hs
      clear hs
      go_wp2_with fail
      go_ret
      exact ⟨by rw [HS.out, HSS.out]; rfl, HB2.out⟩
    | true =>
      have HSS := Lib.hid hs
      clear hs
      go_wp2_with fail
      refine (Tryz.strings_HasSuffix (toB op) ⟨#[61]⟩ _ (by omega)).mono ?_
      rintro e w3 ⟨rfl, rfl⟩
      rw [hsf]
      go_wp2_with fail
      refine (Tryz.strings_Contains_one (toB op) 118 _).mono ?_
      rintro e w4 ⟨rfl, rfl⟩
      rw [hcv]
      go_wp2_with fail
      go_ret
      exact ⟨by rw [HS.out, HSS.out]; rfl, HB2.out⟩
  · have hsf : Lib.hasSuffix (toB op).data.toList (⟨#[61]⟩ : ByteArray).data.toList = false := by rw [toB_data, HOp.out]; rfl
    have hcv : decide (0 ≤ Lib.indexByte (toB op).data.toList 118) = false := by rw [toB_data, HOp.out]; rfl
    have f0 := cmpB (b := false) HOp.out [110] rfl
    have f1 := cmpB (b := false) HOp.out [118] rfl
    have f2 := cmpB (b := false) HOp.out [101] rfl
    have f3 := cmpB (b := false) HOp.out [117, 45] rfl
    have f4 := cmpB (b := false) HOp.out [117, 43] rfl
    have f5 := cmpB (b := true) HOp.out [33] rfl
    go_enter Tryz.func40, Tryz.ntmps40
    obtain ⟨c0, c1, c2, c3, cf⟩ := F.out.cells
    go_wp2_with fail
    refine (HC.out _ HB.out).mono ?_
    rintro e w2 ⟨rfl, hb2⟩
    have HB2 := Lib.hid (HB.out.trans (hb2.mono HB.out.size))
    have F2 := Lib.hid (Four.keep F.out hb2)
    have hlt2 := F2.out.lt
    obtain ⟨d0, d1, d2, d3, df⟩ := F2.out.cells
    clear hb2 c0 c1 c2 c3 cf
    cases hs : shapeds [y0] with
    | false =>
      have HSS := Lib.hid hs
      clear hs
      go_wp2_with fail
      go_ret
      exact ⟨by rw [HS.out, HSS.out]; rfl, HB2.out⟩
    | true =>
      have HSS := Lib.hid hs
      clear hs
      go_wp2_with fail
      refine (Tryz.strings_HasSuffix (toB op) ⟨#[61]⟩ _ (by omega)).mono ?_
      rintro e w3 ⟨rfl, rfl⟩
      rw [hsf]
      go_wp2_with fail
      refine (Tryz.strings_Contains_one (toB op) 118 _).mono ?_
      rintro e w4 ⟨rfl, rfl⟩
      rw [hcv]
      go_wp2_with fail
      go_ret
      exact ⟨by rw [HS.out, HSS.out]; rfl, HB2.out⟩
  · have hsf : Lib.hasSuffix (toB op).data.toList (⟨#[61]⟩ : ByteArray).data.toList = false := by rw [toB_data, HOp.out]; rfl
    have hcv : decide (0 ≤ Lib.indexByte (toB op).data.toList 118) = false := by rw [toB_data, HOp.out]; rfl
    have f0 := cmpB (b := false) HOp.out [110] rfl
    have f1 := cmpB (b := false) HOp.out [118] rfl
    have f2 := cmpB (b := false) HOp.out [101] rfl
    have f3 := cmpB (b := false) HOp.out [117, 45] rfl
    have f4 := cmpB (b := false) HOp.out [117, 43] rfl
    have f5 := cmpB (b := false) HOp.out [33] rfl
    have f6 := cmpB (b := true) HOp.out [126] rfl
    go_enter Tryz.func40, Tryz.ntmps40
    obtain ⟨c0, c1, c2, c3, cf⟩ := F.out.cells
    go_wp2_with fail
    refine (HC.out _ HB.out).mono ?_
    rintro e w2 ⟨rfl, hb2⟩
    have HB2 := Lib.hid (HB.out.trans (hb2.mono HB.out.size))
    have F2 := Lib.hid (Four.keep F.out hb2)
    have hlt2 := F2.out.lt
    obtain ⟨d0, d1, d2, d3, df⟩ := F2.out.cells
    clear hb2 c0 c1 c2 c3 cf
    cases hs : shapeds [y0] with
    | false =>
      have HSS := Lib.hid hs
      clear hs
      go_wp2_with fail
      go_ret
      exact ⟨by rw [HS.out, HSS.out]; rfl, HB2.out⟩
    | true =>
      have HSS := Lib.hid hs
      clear hs
      go_wp2_with fail
      refine (Tryz.strings_HasSuffix (toB op) ⟨#[61]⟩ _ (by omega)).mono ?_
      rintro e w3 ⟨rfl, rfl⟩
      rw [hsf]
      go_wp2_with fail
      refine (Tryz.strings_Contains_one (toB op) 118 _).mono ?_
      rintro e w4 ⟨rfl, rfl⟩
      rw [hcv]
      go_wp2_with fail
      go_ret
      exact ⟨by rw [HS.out, HSS.out]; rfl, HB2.out⟩

set_option maxRecDepth 100000 in
set_option maxHeartbeats 6400000 in
theorem rshape_tw (P : Nat → Prop) (op : List UInt8) (hop : op ∈ ([[43, 43, 118], [45, 45, 118], [118, 43, 43], [118, 45, 45]] : List (List UInt8))) (y0 : Ex) (IH : ∀ y ∈ [y0], RSh P y) : RSh P (.mk op 0 [] [y0]) := by
  intro v w hx
  obtain ⟨A, c, rfl, _, hA⟩ := hx.parts
  have hfc : leafO op = false ∧ arO op = 1 ∧ setsO op = true := by
    have : ∀ op ∈ ([[43, 43, 118], [45, 45, 118], [118, 43, 43], [118, 45, 45]] : List (List UInt8)), leafO op = false ∧ arO op = 1 ∧ setsO op = true := by decide
    exact this op hop
  have HS := Lib.hid (show shaped (.mk op 0 [] [y0]) = (shapeds [y0] && target y0) by
    rw [shaped_node_eq (l := [y0]) hfc.1 hfc.2.1 (by simp), hfc.2.2]
    rfl)
  have ba := (Below.refl w.heap.size w).alloc (Nat.le_refl _) (.cells #[.string (toB op), .int .i64 0, .string (toB []), .slice A [y0].length c] 25)
  have HB := Lib.hid ba
  have F := Lib.hid (Four.new w (.string (toB op)) (.int .i64 0) (.string (toB [])) (.slice A [y0].length c))
  have HC := Lib.hid (fun W (hb : Below w.heap.size w W) => rcontains_any P A c [y0] W (hA.below hb) (by simp) IH)
  have hem : (toB []).toList.isEmpty = true := by rw [toB_toList]; rfl
  have hem2 : ((toB []).toList == []) = true := by rw [toB_toList]; rfl
  have hszO : (toB op).size ≤ 1000 := by
    have : ∀ op ∈ ([[43, 43, 118], [45, 45, 118], [118, 43, 43], [118, 45, 45]] : List (List UInt8)), op.length ≤ 3 := by decide
    have := this op hop
    rw [toB_size]
    omega
  have HXA := Lib.hid (fun W (hb : Below w.heap.size w W) => hA.below hb)
  obtain ⟨L, hL, hop2⟩ : ∃ L ∈ ([[43, 43, 118], [45, 45, 118], [118, 43, 43], [118, 45, 45]] : List (List UInt8)), op = L := ⟨op, hop, rfl⟩
  have HOp := Lib.hid hop2
  simp only [List.mem_cons, List.not_mem_nil, or_false] at hL
  clear hop hop2 hx IH hA ba hfc
  rcases hL with rfl | rfl | rfl | rfl
  · have hsf : Lib.hasSuffix (toB op).data.toList (⟨#[61]⟩ : ByteArray).data.toList = false := by rw [toB_data, HOp.out]; rfl
    have hcv : decide (0 ≤ Lib.indexByte (toB op).data.toList 118) = true := by rw [toB_data, HOp.out]; rfl
    have f0 := cmpB (b := false) HOp.out [110] rfl
    have f1 := cmpB (b := false) HOp.out [118] rfl
    have f2 := cmpB (b := false) HOp.out [101] rfl
    have f3 := cmpB (b := false) HOp.out [117, 45] rfl
    have f4 := cmpB (b := false) HOp.out [117, 43] rfl
    have f5 := cmpB (b := false) HOp.out [33] rfl
    have f6 := cmpB (b := false) HOp.out [126] rfl
    have f7 := cmpB (b := true) HOp.out [43, 43, 118] rfl
    go_enter Tryz.func40, Tryz.ntmps40
    obtain ⟨c0, c1, c2, c3, cf⟩ := F.out.cells
    go_wp2_with fail
    refine (HC.out _ HB.out).mono ?_
    rintro e w2 ⟨rfl, hb2⟩
    have HB2 := Lib.hid (HB.out.trans (hb2.mono HB.out.size))
    have F2 := Lib.hid (Four.keep F.out hb2)
    have hlt2 := F2.out.lt
    obtain ⟨d0, d1, d2, d3, df⟩ := F2.out.cells
    clear hb2 c0 c1 c2 c3 cf
    cases hs : shapeds [y0] with
    | false =>
      have HSS := Lib.hid hs
      clear hs
      go_wp2_with fail
      go_ret
      exact ⟨by rw [HS.out, HSS.out]; rfl, HB2.out⟩
    | true =>
      have HSS := Lib.hid hs
      clear hs
      go_wp2_with fail
      refine (Tryz.strings_HasSuffix (toB op) ⟨#[61]⟩ _ (by omega)).mono ?_
      rintro e w3 ⟨rfl, rfl⟩
      rw [hsf]
      go_wp2_with fail
      refine (Tryz.strings_Contains_one (toB op) 118 _).mono ?_
      rintro e w4 ⟨rfl, rfl⟩
      rw [hcv]
      obtain ⟨g, off, hAe, _, hg, hLx⟩ := HXA.out _ HB2.out (by simp)
      subst hAe
      obtain ⟨v0, v1, v2, v3, p0, p1, p2, p3, hxy⟩ := ex0 hLx
      obtain ⟨n5, A5, k5, c5, nm5, hv, hq5⟩ := hxy.form
      simp only [Value.agg.injEq, Array.mk.injEq, List.cons.injEq, and_true] at hv
      obtain ⟨rfl, rfl, rfl, rfl⟩ := hv
      have HTg := Lib.hid (show target y0 = (y0.op == [101] || y0.op == [118] && isNm nm5) by rw [hq5]; rfl)
      clear hxy hLx hq5
      go_wp2_with fail
      refine (rtarget_any y0.op nm5 n5 A5 k5 c5 _).mono ?_
      rintro e w5 ⟨rfl, hb5⟩
      have HB5 := Lib.hid (HB2.out.trans (hb5.mono HB2.out.size))
      clear hb5
      go_wp2_with fail
      go_ret
      exact ⟨by rw [HS.out, HSS.out, HTg.out]; rfl, HB5.out⟩
  · have hsf : Lib.hasSuffix (toB op).data.toList (⟨#[61]⟩ : ByteArray).data.toList = false := by rw [toB_data, HOp.out]; rfl
    have hcv : decide (0 ≤ Lib.indexByte (toB op).data.toList 118) = true := by rw [toB_data, HOp.out]; rfl
    have f0 := cmpB (b := false) HOp.out [110] rfl
    have f1 := cmpB (b := false) HOp.out [118] rfl
    have f2 := cmpB (b := false) HOp.out [101] rfl
    have f3 := cmpB (b := false) HOp.out [117, 45] rfl
    have f4 := cmpB (b := false) HOp.out [117, 43] rfl
    have f5 := cmpB (b := false) HOp.out [33] rfl
    have f6 := cmpB (b := false) HOp.out [126] rfl
    have f7 := cmpB (b := false) HOp.out [43, 43, 118] rfl
    have f8 := cmpB (b := true) HOp.out [45, 45, 118] rfl
    go_enter Tryz.func40, Tryz.ntmps40
    obtain ⟨c0, c1, c2, c3, cf⟩ := F.out.cells
    go_wp2_with fail
    refine (HC.out _ HB.out).mono ?_
    rintro e w2 ⟨rfl, hb2⟩
    have HB2 := Lib.hid (HB.out.trans (hb2.mono HB.out.size))
    have F2 := Lib.hid (Four.keep F.out hb2)
    have hlt2 := F2.out.lt
    obtain ⟨d0, d1, d2, d3, df⟩ := F2.out.cells
    clear hb2 c0 c1 c2 c3 cf
    cases hs : shapeds [y0] with
    | false =>
      have HSS := Lib.hid hs
      clear hs
      go_wp2_with fail
      go_ret
      exact ⟨by rw [HS.out, HSS.out]; rfl, HB2.out⟩
    | true =>
      have HSS := Lib.hid hs
      clear hs
      go_wp2_with fail
      refine (Tryz.strings_HasSuffix (toB op) ⟨#[61]⟩ _ (by omega)).mono ?_
      rintro e w3 ⟨rfl, rfl⟩
      rw [hsf]
      go_wp2_with fail
      refine (Tryz.strings_Contains_one (toB op) 118 _).mono ?_
      rintro e w4 ⟨rfl, rfl⟩
      rw [hcv]
      obtain ⟨g, off, hAe, _, hg, hLx⟩ := HXA.out _ HB2.out (by simp)
      subst hAe
      obtain ⟨v0, v1, v2, v3, p0, p1, p2, p3, hxy⟩ := ex0 hLx
      obtain ⟨n5, A5, k5, c5, nm5, hv, hq5⟩ := hxy.form
      simp only [Value.agg.injEq, Array.mk.injEq, List.cons.injEq, and_true] at hv
      obtain ⟨rfl, rfl, rfl, rfl⟩ := hv
      have HTg := Lib.hid (show target y0 = (y0.op == [101] || y0.op == [118] && isNm nm5) by rw [hq5]; rfl)
      clear hxy hLx hq5
      go_wp2_with fail
      refine (rtarget_any y0.op nm5 n5 A5 k5 c5 _).mono ?_
      rintro e w5 ⟨rfl, hb5⟩
      have HB5 := Lib.hid (HB2.out.trans (hb5.mono HB2.out.size))
      clear hb5
      go_wp2_with fail
      go_ret
      exact ⟨by rw [HS.out, HSS.out, HTg.out]; rfl, HB5.out⟩
  · have hsf : Lib.hasSuffix (toB op).data.toList (⟨#[61]⟩ : ByteArray).data.toList = false := by rw [toB_data, HOp.out]; rfl
    have hcv : decide (0 ≤ Lib.indexByte (toB op).data.toList 118) = true := by rw [toB_data, HOp.out]; rfl
    have f0 := cmpB (b := false) HOp.out [110] rfl
    have f1 := cmpB (b := false) HOp.out [118] rfl
    have f2 := cmpB (b := false) HOp.out [101] rfl
    have f3 := cmpB (b := false) HOp.out [117, 45] rfl
    have f4 := cmpB (b := false) HOp.out [117, 43] rfl
    have f5 := cmpB (b := false) HOp.out [33] rfl
    have f6 := cmpB (b := false) HOp.out [126] rfl
    have f7 := cmpB (b := false) HOp.out [43, 43, 118] rfl
    have f8 := cmpB (b := false) HOp.out [45, 45, 118] rfl
    have f9 := cmpB (b := true) HOp.out [118, 43, 43] rfl
    go_enter Tryz.func40, Tryz.ntmps40
    obtain ⟨c0, c1, c2, c3, cf⟩ := F.out.cells
    go_wp2_with fail
    refine (HC.out _ HB.out).mono ?_
    rintro e w2 ⟨rfl, hb2⟩
    have HB2 := Lib.hid (HB.out.trans (hb2.mono HB.out.size))
    have F2 := Lib.hid (Four.keep F.out hb2)
    have hlt2 := F2.out.lt
    obtain ⟨d0, d1, d2, d3, df⟩ := F2.out.cells
    clear hb2 c0 c1 c2 c3 cf
    cases hs : shapeds [y0] with
    | false =>
      have HSS := Lib.hid hs
      clear hs
      go_wp2_with fail
      go_ret
      exact ⟨by rw [HS.out, HSS.out]; rfl, HB2.out⟩
    | true =>
      have HSS := Lib.hid hs
      clear hs
      go_wp2_with fail
      refine (Tryz.strings_HasSuffix (toB op) ⟨#[61]⟩ _ (by omega)).mono ?_
      rintro e w3 ⟨rfl, rfl⟩
      rw [hsf]
      go_wp2_with fail
      refine (Tryz.strings_Contains_one (toB op) 118 _).mono ?_
      rintro e w4 ⟨rfl, rfl⟩
      rw [hcv]
      obtain ⟨g, off, hAe, _, hg, hLx⟩ := HXA.out _ HB2.out (by simp)
      subst hAe
      obtain ⟨v0, v1, v2, v3, p0, p1, p2, p3, hxy⟩ := ex0 hLx
      obtain ⟨n5, A5, k5, c5, nm5, hv, hq5⟩ := hxy.form
      simp only [Value.agg.injEq, Array.mk.injEq, List.cons.injEq, and_true] at hv
      obtain ⟨rfl, rfl, rfl, rfl⟩ := hv
      have HTg := Lib.hid (show target y0 = (y0.op == [101] || y0.op == [118] && isNm nm5) by rw [hq5]; rfl)
      clear hxy hLx hq5
      go_wp2_with fail
      refine (rtarget_any y0.op nm5 n5 A5 k5 c5 _).mono ?_
      rintro e w5 ⟨rfl, hb5⟩
      have HB5 := Lib.hid (HB2.out.trans (hb5.mono HB2.out.size))
      clear hb5
      go_wp2_with fail
      go_ret
      exact ⟨by rw [HS.out, HSS.out, HTg.out]; rfl, HB5.out⟩
  · have hsf : Lib.hasSuffix (toB op).data.toList (⟨#[61]⟩ : ByteArray).data.toList = false := by rw [toB_data, HOp.out]; rfl
    have hcv : decide (0 ≤ Lib.indexByte (toB op).data.toList 118) = true := by rw [toB_data, HOp.out]; rfl
    have f0 := cmpB (b := false) HOp.out [110] rfl
    have f1 := cmpB (b := false) HOp.out [118] rfl
    have f2 := cmpB (b := false) HOp.out [101] rfl
    have f3 := cmpB (b := false) HOp.out [117, 45] rfl
    have f4 := cmpB (b := false) HOp.out [117, 43] rfl
    have f5 := cmpB (b := false) HOp.out [33] rfl
    have f6 := cmpB (b := false) HOp.out [126] rfl
    have f7 := cmpB (b := false) HOp.out [43, 43, 118] rfl
    have f8 := cmpB (b := false) HOp.out [45, 45, 118] rfl
    have f9 := cmpB (b := false) HOp.out [118, 43, 43] rfl
    have f10 := cmpB (b := true) HOp.out [118, 45, 45] rfl
    go_enter Tryz.func40, Tryz.ntmps40
    obtain ⟨c0, c1, c2, c3, cf⟩ := F.out.cells
    go_wp2_with fail
    refine (HC.out _ HB.out).mono ?_
    rintro e w2 ⟨rfl, hb2⟩
    have HB2 := Lib.hid (HB.out.trans (hb2.mono HB.out.size))
    have F2 := Lib.hid (Four.keep F.out hb2)
    have hlt2 := F2.out.lt
    obtain ⟨d0, d1, d2, d3, df⟩ := F2.out.cells
    clear hb2 c0 c1 c2 c3 cf
    cases hs : shapeds [y0] with
    | false =>
      have HSS := Lib.hid hs
      clear hs
      go_wp2_with fail
      go_ret
      exact ⟨by rw [HS.out, HSS.out]; rfl, HB2.out⟩
    | true =>
      have HSS := Lib.hid hs
      clear hs
      go_wp2_with fail
      refine (Tryz.strings_HasSuffix (toB op) ⟨#[61]⟩ _ (by omega)).mono ?_
      rintro e w3 ⟨rfl, rfl⟩
      rw [hsf]
      go_wp2_with fail
      refine (Tryz.strings_Contains_one (toB op) 118 _).mono ?_
      rintro e w4 ⟨rfl, rfl⟩
      rw [hcv]
      obtain ⟨g, off, hAe, _, hg, hLx⟩ := HXA.out _ HB2.out (by simp)
      subst hAe
      obtain ⟨v0, v1, v2, v3, p0, p1, p2, p3, hxy⟩ := ex0 hLx
      obtain ⟨n5, A5, k5, c5, nm5, hv, hq5⟩ := hxy.form
      simp only [Value.agg.injEq, Array.mk.injEq, List.cons.injEq, and_true] at hv
      obtain ⟨rfl, rfl, rfl, rfl⟩ := hv
      have HTg := Lib.hid (show target y0 = (y0.op == [101] || y0.op == [118] && isNm nm5) by rw [hq5]; rfl)
      clear hxy hLx hq5
      go_wp2_with fail
      refine (rtarget_any y0.op nm5 n5 A5 k5 c5 _).mono ?_
      rintro e w5 ⟨rfl, hb5⟩
      have HB5 := Lib.hid (HB2.out.trans (hb5.mono HB2.out.size))
      clear hb5
      go_wp2_with fail
      go_ret
      exact ⟨by rw [HS.out, HSS.out, HTg.out]; rfl, HB5.out⟩

set_option maxRecDepth 100000 in
set_option maxHeartbeats 6400000 in
theorem rshape_qu (P : Nat → Prop) (op : List UInt8) (hop : op ∈ ([[63]] : List (List UInt8))) (y0 y1 y2 : Ex) (IH : ∀ y ∈ [y0, y1, y2], RSh P y) : RSh P (.mk op 0 [] [y0, y1, y2]) := by
  intro v w hx
  obtain ⟨A, c, rfl, _, hA⟩ := hx.parts
  have hfc : leafO op = false ∧ arO op = 3 ∧ setsO op = false := by
    have : ∀ op ∈ ([[63]] : List (List UInt8)), leafO op = false ∧ arO op = 3 ∧ setsO op = false := by decide
    exact this op hop
  have HS := Lib.hid (show shaped (.mk op 0 [] [y0, y1, y2]) = shapeds [y0, y1, y2] by
    rw [shaped_node_eq (l := [y0, y1, y2]) hfc.1 hfc.2.1 (by simp), hfc.2.2]
    simp)
  have ba := (Below.refl w.heap.size w).alloc (Nat.le_refl _) (.cells #[.string (toB op), .int .i64 0, .string (toB []), .slice A [y0, y1, y2].length c] 25)
  have HB := Lib.hid ba
  have F := Lib.hid (Four.new w (.string (toB op)) (.int .i64 0) (.string (toB [])) (.slice A [y0, y1, y2].length c))
  have HC := Lib.hid (fun W (hb : Below w.heap.size w W) => rcontains_any P A c [y0, y1, y2] W (hA.below hb) (by simp) IH)
  have hem : (toB []).toList.isEmpty = true := by rw [toB_toList]; rfl
  have hem2 : ((toB []).toList == []) = true := by rw [toB_toList]; rfl
  have hszO : (toB op).size ≤ 1000 := by
    have : ∀ op ∈ ([[63]] : List (List UInt8)), op.length ≤ 3 := by decide
    have := this op hop
    rw [toB_size]
    omega
  obtain ⟨L, hL, hop2⟩ : ∃ L ∈ ([[63]] : List (List UInt8)), op = L := ⟨op, hop, rfl⟩
  have HOp := Lib.hid hop2
  simp only [List.mem_cons, List.not_mem_nil, or_false] at hL
  clear hop hop2 hx IH hA ba hfc
  rcases hL with rfl
  · have hsf : Lib.hasSuffix (toB op).data.toList (⟨#[61]⟩ : ByteArray).data.toList = false := by rw [toB_data, HOp.out]; rfl
    have hcv : decide (0 ≤ Lib.indexByte (toB op).data.toList 118) = false := by rw [toB_data, HOp.out]; rfl
    have f0 := cmpB (b := false) HOp.out [110] rfl
    have f1 := cmpB (b := false) HOp.out [118] rfl
    have f2 := cmpB (b := false) HOp.out [101] rfl
    have f3 := cmpB (b := false) HOp.out [117, 45] rfl
    have f4 := cmpB (b := false) HOp.out [117, 43] rfl
    have f5 := cmpB (b := false) HOp.out [33] rfl
    have f6 := cmpB (b := false) HOp.out [126] rfl
    have f7 := cmpB (b := false) HOp.out [43, 43, 118] rfl
    have f8 := cmpB (b := false) HOp.out [45, 45, 118] rfl
    have f9 := cmpB (b := false) HOp.out [118, 43, 43] rfl
    have f10 := cmpB (b := false) HOp.out [118, 45, 45] rfl
    have f11 := cmpB (b := true) HOp.out [63] rfl
    go_enter Tryz.func40, Tryz.ntmps40
    obtain ⟨c0, c1, c2, c3, cf⟩ := F.out.cells
    go_wp2_with fail
    refine (HC.out _ HB.out).mono ?_
    rintro e w2 ⟨rfl, hb2⟩
    have HB2 := Lib.hid (HB.out.trans (hb2.mono HB.out.size))
    have F2 := Lib.hid (Four.keep F.out hb2)
    have hlt2 := F2.out.lt
    obtain ⟨d0, d1, d2, d3, df⟩ := F2.out.cells
    clear hb2 c0 c1 c2 c3 cf
    cases hs : shapeds [y0, y1, y2] with
    | false =>
      have HSS := Lib.hid hs
      clear hs
      go_wp2_with fail
      go_ret
      exact ⟨by rw [HS.out, HSS.out]; rfl, HB2.out⟩
    | true =>
      have HSS := Lib.hid hs
      clear hs
      go_wp2_with fail
      refine (Tryz.strings_HasSuffix (toB op) ⟨#[61]⟩ _ (by omega)).mono ?_
      rintro e w3 ⟨rfl, rfl⟩
      rw [hsf]
      go_wp2_with fail
      refine (Tryz.strings_Contains_one (toB op) 118 _).mono ?_
      rintro e w4 ⟨rfl, rfl⟩
      rw [hcv]
      go_wp2_with fail
      go_ret
      exact ⟨by rw [HS.out, HSS.out]; rfl, HB2.out⟩

end Go.Proofs.YtiigclkebnmopaaGreatDoor

namespace Go.Proofs.YtiigclkebnmopaaGreatDoor
open Go.RowKit Go.Shelf

set_option maxRecDepth 100000 in
set_option maxHeartbeats 6400000 in
theorem rshape_cmp (P : Nat → Prop) (op : List UInt8) (hop : op ∈ ([[60, 61], [62, 61], [61, 61], [33, 61]] : List (List UInt8))) (y0 y1 : Ex) (IH : ∀ y ∈ [y0, y1], RSh P y) : RSh P (.mk op 0 [] [y0, y1]) := by
  intro v w hx
  obtain ⟨A, c, rfl, _, hA⟩ := hx.parts
  have hfc : leafO op = false ∧ arO op = 2 ∧ setsO op = false := by
    have : ∀ op ∈ ([[60, 61], [62, 61], [61, 61], [33, 61]] : List (List UInt8)), leafO op = false ∧ arO op = 2 ∧ setsO op = false := by decide
    exact this op hop
  have HS := Lib.hid (show shaped (.mk op 0 [] [y0, y1]) = shapeds [y0, y1] by
    rw [shaped_node_eq (l := [y0, y1]) hfc.1 hfc.2.1 (by simp), hfc.2.2]
    simp)
  have ba := (Below.refl w.heap.size w).alloc (Nat.le_refl _) (.cells #[.string (toB op), .int .i64 0, .string (toB []), .slice A [y0, y1].length c] 25)
  have HB := Lib.hid ba
  have F := Lib.hid (Four.new w (.string (toB op)) (.int .i64 0) (.string (toB [])) (.slice A [y0, y1].length c))
  have HC := Lib.hid (fun W (hb : Below w.heap.size w W) => rcontains_any P A c [y0, y1] W (hA.below hb) (by simp) IH)
  have hem : (toB []).toList.isEmpty = true := by rw [toB_toList]; rfl
  have hem2 : ((toB []).toList == []) = true := by rw [toB_toList]; rfl
  have hszO : (toB op).size ≤ 1000 := by
    have : ∀ op ∈ ([[60, 61], [62, 61], [61, 61], [33, 61]] : List (List UInt8)), op.length ≤ 3 := by decide
    have := this op hop
    rw [toB_size]
    omega
  obtain ⟨L, hL, hop2⟩ : ∃ L ∈ ([[60, 61], [62, 61], [61, 61], [33, 61]] : List (List UInt8)), op = L := ⟨op, hop, rfl⟩
  have HOp := Lib.hid hop2
  simp only [List.mem_cons, List.not_mem_nil, or_false] at hL
  clear hop hop2 hx IH hA ba hfc
  rcases hL with rfl | rfl | rfl | rfl
  · have hsf : Lib.hasSuffix (toB op).data.toList (⟨#[61]⟩ : ByteArray).data.toList = true := by rw [toB_data, HOp.out]; rfl
    have hcv : decide (0 ≤ Lib.indexByte (toB op).data.toList 118) = false := by rw [toB_data, HOp.out]; rfl
    have hin : decide (op ∈ ([[60, 61], [62, 61], [61, 61], [33, 61]] : List (List UInt8))) = true := by rw [HOp.out]; rfl
    have f0 := cmpB (b := false) HOp.out [110] rfl
    have f1 := cmpB (b := false) HOp.out [118] rfl
    have f2 := cmpB (b := false) HOp.out [101] rfl
    have f3 := cmpB (b := false) HOp.out [117, 45] rfl
    have f4 := cmpB (b := false) HOp.out [117, 43] rfl
    have f5 := cmpB (b := false) HOp.out [33] rfl
    have f6 := cmpB (b := false) HOp.out [126] rfl
    have f7 := cmpB (b := false) HOp.out [43, 43, 118] rfl
    have f8 := cmpB (b := false) HOp.out [45, 45, 118] rfl
    have f9 := cmpB (b := false) HOp.out [118, 43, 43] rfl
    have f10 := cmpB (b := false) HOp.out [118, 45, 45] rfl
    have f11 := cmpB (b := false) HOp.out [63] rfl
    have f12 := cmpB (b := false) HOp.out [42] rfl
    have f13 := cmpB (b := false) HOp.out [47] rfl
    have f14 := cmpB (b := false) HOp.out [37] rfl
    have f15 := cmpB (b := false) HOp.out [43] rfl
    have f16 := cmpB (b := false) HOp.out [45] rfl
    have f17 := cmpB (b := false) HOp.out [60, 60] rfl
    have f18 := cmpB (b := false) HOp.out [62, 62] rfl
    have f19 := cmpB (b := false) HOp.out [60] rfl
    have f20 := cmpB (b := true) HOp.out [60, 61] rfl
    go_enter Tryz.func40, Tryz.ntmps40
    obtain ⟨c0, c1, c2, c3, cf⟩ := F.out.cells
    go_wp2_with fail
    refine (HC.out _ HB.out).mono ?_
    rintro e w2 ⟨rfl, hb2⟩
    have HB2 := Lib.hid (HB.out.trans (hb2.mono HB.out.size))
    have F2 := Lib.hid (Four.keep F.out hb2)
    have hlt2 := F2.out.lt
    obtain ⟨d0, d1, d2, d3, df⟩ := F2.out.cells
    clear hb2 c0 c1 c2 c3 cf
    cases hs : shapeds [y0, y1] with
    | false =>
      have HSS := Lib.hid hs
      clear hs
      go_wp2_with fail
      go_ret
      exact ⟨by rw [HS.out, HSS.out]; rfl, HB2.out⟩
    | true =>
      have HSS := Lib.hid hs
      clear hs
      go_wp2_with fail
      refine (Tryz.strings_HasSuffix (toB op) ⟨#[61]⟩ _ (by omega)).mono ?_
      rintro e w3 ⟨rfl, rfl⟩
      rw [hsf]
      go_wp2_with fail
      refine (rcont_any w3.heap.size 0 4 [[60, 61], [62, 61], [61, 61], [33, 61]] op _ (lit4 w3) (by simp)).mono ?_
      rintro e w4 ⟨rfl, rfl⟩
      rw [hin]
      go_wp2_with fail
      refine (Tryz.strings_Contains_one (toB op) 118 _).mono ?_
      rintro e w4 ⟨rfl, rfl⟩
      rw [hcv]
      go_wp2_with fail
      go_ret
      exact ⟨by rw [HS.out, HSS.out]; rfl, HB2.out.alloc HB2.out.size _⟩
  · have hsf : Lib.hasSuffix (toB op).data.toList (⟨#[61]⟩ : ByteArray).data.toList = true := by rw [toB_data, HOp.out]; rfl
    have hcv : decide (0 ≤ Lib.indexByte (toB op).data.toList 118) = false := by rw [toB_data, HOp.out]; rfl
    have hin : decide (op ∈ ([[60, 61], [62, 61], [61, 61], [33, 61]] : List (List UInt8))) = true := by rw [HOp.out]; rfl
    have f0 := cmpB (b := false) HOp.out [110] rfl
    have f1 := cmpB (b := false) HOp.out [118] rfl
    have f2 := cmpB (b := false) HOp.out [101] rfl
    have f3 := cmpB (b := false) HOp.out [117, 45] rfl
    have f4 := cmpB (b := false) HOp.out [117, 43] rfl
    have f5 := cmpB (b := false) HOp.out [33] rfl
    have f6 := cmpB (b := false) HOp.out [126] rfl
    have f7 := cmpB (b := false) HOp.out [43, 43, 118] rfl
    have f8 := cmpB (b := false) HOp.out [45, 45, 118] rfl
    have f9 := cmpB (b := false) HOp.out [118, 43, 43] rfl
    have f10 := cmpB (b := false) HOp.out [118, 45, 45] rfl
    have f11 := cmpB (b := false) HOp.out [63] rfl
    have f12 := cmpB (b := false) HOp.out [42] rfl
    have f13 := cmpB (b := false) HOp.out [47] rfl
    have f14 := cmpB (b := false) HOp.out [37] rfl
    have f15 := cmpB (b := false) HOp.out [43] rfl
    have f16 := cmpB (b := false) HOp.out [45] rfl
    have f17 := cmpB (b := false) HOp.out [60, 60] rfl
    have f18 := cmpB (b := false) HOp.out [62, 62] rfl
    have f19 := cmpB (b := false) HOp.out [60] rfl
    have f20 := cmpB (b := false) HOp.out [60, 61] rfl
    have f21 := cmpB (b := false) HOp.out [62] rfl
    have f22 := cmpB (b := true) HOp.out [62, 61] rfl
    go_enter Tryz.func40, Tryz.ntmps40
    obtain ⟨c0, c1, c2, c3, cf⟩ := F.out.cells
    go_wp2_with fail
    refine (HC.out _ HB.out).mono ?_
    rintro e w2 ⟨rfl, hb2⟩
    have HB2 := Lib.hid (HB.out.trans (hb2.mono HB.out.size))
    have F2 := Lib.hid (Four.keep F.out hb2)
    have hlt2 := F2.out.lt
    obtain ⟨d0, d1, d2, d3, df⟩ := F2.out.cells
    clear hb2 c0 c1 c2 c3 cf
    cases hs : shapeds [y0, y1] with
    | false =>
      have HSS := Lib.hid hs
      clear hs
      go_wp2_with fail
      go_ret
      exact ⟨by rw [HS.out, HSS.out]; rfl, HB2.out⟩
    | true =>
      have HSS := Lib.hid hs
      clear hs
      go_wp2_with fail
      refine (Tryz.strings_HasSuffix (toB op) ⟨#[61]⟩ _ (by omega)).mono ?_
      rintro e w3 ⟨rfl, rfl⟩
      rw [hsf]
      go_wp2_with fail
      refine (rcont_any w3.heap.size 0 4 [[60, 61], [62, 61], [61, 61], [33, 61]] op _ (lit4 w3) (by simp)).mono ?_
      rintro e w4 ⟨rfl, rfl⟩
      rw [hin]
      go_wp2_with fail
      refine (Tryz.strings_Contains_one (toB op) 118 _).mono ?_
      rintro e w4 ⟨rfl, rfl⟩
      rw [hcv]
      go_wp2_with fail
      go_ret
      exact ⟨by rw [HS.out, HSS.out]; rfl, HB2.out.alloc HB2.out.size _⟩
  · have hsf : Lib.hasSuffix (toB op).data.toList (⟨#[61]⟩ : ByteArray).data.toList = true := by rw [toB_data, HOp.out]; rfl
    have hcv : decide (0 ≤ Lib.indexByte (toB op).data.toList 118) = false := by rw [toB_data, HOp.out]; rfl
    have hin : decide (op ∈ ([[60, 61], [62, 61], [61, 61], [33, 61]] : List (List UInt8))) = true := by rw [HOp.out]; rfl
    have f0 := cmpB (b := false) HOp.out [110] rfl
    have f1 := cmpB (b := false) HOp.out [118] rfl
    have f2 := cmpB (b := false) HOp.out [101] rfl
    have f3 := cmpB (b := false) HOp.out [117, 45] rfl
    have f4 := cmpB (b := false) HOp.out [117, 43] rfl
    have f5 := cmpB (b := false) HOp.out [33] rfl
    have f6 := cmpB (b := false) HOp.out [126] rfl
    have f7 := cmpB (b := false) HOp.out [43, 43, 118] rfl
    have f8 := cmpB (b := false) HOp.out [45, 45, 118] rfl
    have f9 := cmpB (b := false) HOp.out [118, 43, 43] rfl
    have f10 := cmpB (b := false) HOp.out [118, 45, 45] rfl
    have f11 := cmpB (b := false) HOp.out [63] rfl
    have f12 := cmpB (b := false) HOp.out [42] rfl
    have f13 := cmpB (b := false) HOp.out [47] rfl
    have f14 := cmpB (b := false) HOp.out [37] rfl
    have f15 := cmpB (b := false) HOp.out [43] rfl
    have f16 := cmpB (b := false) HOp.out [45] rfl
    have f17 := cmpB (b := false) HOp.out [60, 60] rfl
    have f18 := cmpB (b := false) HOp.out [62, 62] rfl
    have f19 := cmpB (b := false) HOp.out [60] rfl
    have f20 := cmpB (b := false) HOp.out [60, 61] rfl
    have f21 := cmpB (b := false) HOp.out [62] rfl
    have f22 := cmpB (b := false) HOp.out [62, 61] rfl
    have f23 := cmpB (b := true) HOp.out [61, 61] rfl
    go_enter Tryz.func40, Tryz.ntmps40
    obtain ⟨c0, c1, c2, c3, cf⟩ := F.out.cells
    go_wp2_with fail
    refine (HC.out _ HB.out).mono ?_
    rintro e w2 ⟨rfl, hb2⟩
    have HB2 := Lib.hid (HB.out.trans (hb2.mono HB.out.size))
    have F2 := Lib.hid (Four.keep F.out hb2)
    have hlt2 := F2.out.lt
    obtain ⟨d0, d1, d2, d3, df⟩ := F2.out.cells
    clear hb2 c0 c1 c2 c3 cf
    cases hs : shapeds [y0, y1] with
    | false =>
      have HSS := Lib.hid hs
      clear hs
      go_wp2_with fail
      go_ret
      exact ⟨by rw [HS.out, HSS.out]; rfl, HB2.out⟩
    | true =>
      have HSS := Lib.hid hs
      clear hs
      go_wp2_with fail
      refine (Tryz.strings_HasSuffix (toB op) ⟨#[61]⟩ _ (by omega)).mono ?_
      rintro e w3 ⟨rfl, rfl⟩
      rw [hsf]
      go_wp2_with fail
      refine (rcont_any w3.heap.size 0 4 [[60, 61], [62, 61], [61, 61], [33, 61]] op _ (lit4 w3) (by simp)).mono ?_
      rintro e w4 ⟨rfl, rfl⟩
      rw [hin]
      go_wp2_with fail
      refine (Tryz.strings_Contains_one (toB op) 118 _).mono ?_
      rintro e w4 ⟨rfl, rfl⟩
      rw [hcv]
      go_wp2_with fail
      go_ret
      exact ⟨by rw [HS.out, HSS.out]; rfl, HB2.out.alloc HB2.out.size _⟩
  · have hsf : Lib.hasSuffix (toB op).data.toList (⟨#[61]⟩ : ByteArray).data.toList = true := by rw [toB_data, HOp.out]; rfl
    have hcv : decide (0 ≤ Lib.indexByte (toB op).data.toList 118) = false := by rw [toB_data, HOp.out]; rfl
    have hin : decide (op ∈ ([[60, 61], [62, 61], [61, 61], [33, 61]] : List (List UInt8))) = true := by rw [HOp.out]; rfl
    have f0 := cmpB (b := false) HOp.out [110] rfl
    have f1 := cmpB (b := false) HOp.out [118] rfl
    have f2 := cmpB (b := false) HOp.out [101] rfl
    have f3 := cmpB (b := false) HOp.out [117, 45] rfl
    have f4 := cmpB (b := false) HOp.out [117, 43] rfl
    have f5 := cmpB (b := false) HOp.out [33] rfl
    have f6 := cmpB (b := false) HOp.out [126] rfl
    have f7 := cmpB (b := false) HOp.out [43, 43, 118] rfl
    have f8 := cmpB (b := false) HOp.out [45, 45, 118] rfl
    have f9 := cmpB (b := false) HOp.out [118, 43, 43] rfl
    have f10 := cmpB (b := false) HOp.out [118, 45, 45] rfl
    have f11 := cmpB (b := false) HOp.out [63] rfl
    have f12 := cmpB (b := false) HOp.out [42] rfl
    have f13 := cmpB (b := false) HOp.out [47] rfl
    have f14 := cmpB (b := false) HOp.out [37] rfl
    have f15 := cmpB (b := false) HOp.out [43] rfl
    have f16 := cmpB (b := false) HOp.out [45] rfl
    have f17 := cmpB (b := false) HOp.out [60, 60] rfl
    have f18 := cmpB (b := false) HOp.out [62, 62] rfl
    have f19 := cmpB (b := false) HOp.out [60] rfl
    have f20 := cmpB (b := false) HOp.out [60, 61] rfl
    have f21 := cmpB (b := false) HOp.out [62] rfl
    have f22 := cmpB (b := false) HOp.out [62, 61] rfl
    have f23 := cmpB (b := false) HOp.out [61, 61] rfl
    have f24 := cmpB (b := true) HOp.out [33, 61] rfl
    go_enter Tryz.func40, Tryz.ntmps40
    obtain ⟨c0, c1, c2, c3, cf⟩ := F.out.cells
    go_wp2_with fail
    refine (HC.out _ HB.out).mono ?_
    rintro e w2 ⟨rfl, hb2⟩
    have HB2 := Lib.hid (HB.out.trans (hb2.mono HB.out.size))
    have F2 := Lib.hid (Four.keep F.out hb2)
    have hlt2 := F2.out.lt
    obtain ⟨d0, d1, d2, d3, df⟩ := F2.out.cells
    clear hb2 c0 c1 c2 c3 cf
    cases hs : shapeds [y0, y1] with
    | false =>
      have HSS := Lib.hid hs
      clear hs
      go_wp2_with fail
      go_ret
      exact ⟨by rw [HS.out, HSS.out]; rfl, HB2.out⟩
    | true =>
      have HSS := Lib.hid hs
      clear hs
      go_wp2_with fail
      refine (Tryz.strings_HasSuffix (toB op) ⟨#[61]⟩ _ (by omega)).mono ?_
      rintro e w3 ⟨rfl, rfl⟩
      rw [hsf]
      go_wp2_with fail
      refine (rcont_any w3.heap.size 0 4 [[60, 61], [62, 61], [61, 61], [33, 61]] op _ (lit4 w3) (by simp)).mono ?_
      rintro e w4 ⟨rfl, rfl⟩
      rw [hin]
      go_wp2_with fail
      refine (Tryz.strings_Contains_one (toB op) 118 _).mono ?_
      rintro e w4 ⟨rfl, rfl⟩
      rw [hcv]
      go_wp2_with fail
      go_ret
      exact ⟨by rw [HS.out, HSS.out]; rfl, HB2.out.alloc HB2.out.size _⟩

set_option maxRecDepth 100000 in
set_option maxHeartbeats 6400000 in
theorem rshape_asg (P : Nat → Prop) (op : List UInt8) (hop : op ∈ ([[61], [42, 61], [47, 61], [37, 61], [43, 61], [45, 61], [60, 60, 61], [62, 62, 61], [38, 61], [94, 61], [124, 61]] : List (List UInt8))) (y0 y1 : Ex) (IH : ∀ y ∈ [y0, y1], RSh P y) : RSh P (.mk op 0 [] [y0, y1]) := by
  intro v w hx
  obtain ⟨A, c, rfl, _, hA⟩ := hx.parts
  have hfc : leafO op = false ∧ arO op = 2 ∧ setsO op = true := by
    have : ∀ op ∈ ([[61], [42, 61], [47, 61], [37, 61], [43, 61], [45, 61], [60, 60, 61], [62, 62, 61], [38, 61], [94, 61], [124, 61]] : List (List UInt8)), leafO op = false ∧ arO op = 2 ∧ setsO op = true := by decide
    exact this op hop
  have HS := Lib.hid (show shaped (.mk op 0 [] [y0, y1]) = (shapeds [y0, y1] && target y0) by
    rw [shaped_node_eq (l := [y0, y1]) hfc.1 hfc.2.1 (by simp), hfc.2.2]
    rfl)
  have ba := (Below.refl w.heap.size w).alloc (Nat.le_refl _) (.cells #[.string (toB op), .int .i64 0, .string (toB []), .slice A [y0, y1].length c] 25)
  have HB := Lib.hid ba
  have F := Lib.hid (Four.new w (.string (toB op)) (.int .i64 0) (.string (toB [])) (.slice A [y0, y1].length c))
  have HC := Lib.hid (fun W (hb : Below w.heap.size w W) => rcontains_any P A c [y0, y1] W (hA.below hb) (by simp) IH)
  have hem : (toB []).toList.isEmpty = true := by rw [toB_toList]; rfl
  have hem2 : ((toB []).toList == []) = true := by rw [toB_toList]; rfl
  have hszO : (toB op).size ≤ 1000 := by
    have : ∀ op ∈ ([[61], [42, 61], [47, 61], [37, 61], [43, 61], [45, 61], [60, 60, 61], [62, 62, 61], [38, 61], [94, 61], [124, 61]] : List (List UInt8)), op.length ≤ 3 := by decide
    have := this op hop
    rw [toB_size]
    omega
  have HXA := Lib.hid (fun W (hb : Below w.heap.size w W) => hA.below hb)
  obtain ⟨L, hL, hop2⟩ : ∃ L ∈ ([[61], [42, 61], [47, 61], [37, 61], [43, 61], [45, 61], [60, 60, 61], [62, 62, 61], [38, 61], [94, 61], [124, 61]] : List (List UInt8)), op = L := ⟨op, hop, rfl⟩
  have HOp := Lib.hid hop2
  simp only [List.mem_cons, List.not_mem_nil, or_false] at hL
  clear hop hop2 hx IH hA ba hfc
  rcases hL with rfl | rfl | rfl | rfl | rfl | rfl | rfl | rfl | rfl | rfl | rfl
  · have hsf : Lib.hasSuffix (toB op).data.toList (⟨#[61]⟩ : ByteArray).data.toList = true := by rw [toB_data, HOp.out]; rfl
    have hin : decide (op ∈ ([[60, 61], [62, 61], [61, 61], [33, 61]] : List (List UInt8))) = false := by rw [HOp.out]; rfl
    have f0 := cmpB (b := false) HOp.out [110] rfl
    have f1 := cmpB (b := false) HOp.out [118] rfl
    have f2 := cmpB (b := false) HOp.out [101] rfl
    have f3 := cmpB (b := false) HOp.out [117, 45] rfl
    have f4 := cmpB (b := false) HOp.out [117, 43] rfl
    have f5 := cmpB (b := false) HOp.out [33] rfl
    have f6 := cmpB (b := false) HOp.out [126] rfl
    have f7 := cmpB (b := false) HOp.out [43, 43, 118] rfl
    have f8 := cmpB (b := false) HOp.out [45, 45, 118] rfl
    have f9 := cmpB (b := false) HOp.out [118, 43, 43] rfl
    have f10 := cmpB (b := false) HOp.out [118, 45, 45] rfl
    have f11 := cmpB (b := false) HOp.out [63] rfl
    have f12 := cmpB (b := false) HOp.out [42] rfl
    have f13 := cmpB (b := false) HOp.out [47] rfl
    have f14 := cmpB (b := false) HOp.out [37] rfl
    have f15 := cmpB (b := false) HOp.out [43] rfl
    have f16 := cmpB (b := false) HOp.out [45] rfl
    have f17 := cmpB (b := false) HOp.out [60, 60] rfl
    have f18 := cmpB (b := false) HOp.out [62, 62] rfl
    have f19 := cmpB (b := false) HOp.out [60] rfl
    have f20 := cmpB (b := false) HOp.out [60, 61] rfl
    have f21 := cmpB (b := false) HOp.out [62] rfl
    have f22 := cmpB (b := false) HOp.out [62, 61] rfl
    have f23 := cmpB (b := false) HOp.out [61, 61] rfl
    have f24 := cmpB (b := false) HOp.out [33, 61] rfl
    have f25 := cmpB (b := false) HOp.out [38] rfl
    have f26 := cmpB (b := false) HOp.out [94] rfl
    have f27 := cmpB (b := false) HOp.out [124] rfl
    have f28 := cmpB (b := false) HOp.out [38, 38] rfl
    have f29 := cmpB (b := false) HOp.out [124, 124] rfl
    have f30 := cmpB (b := false) HOp.out [44] rfl
    have f31 := cmpB (b := true) HOp.out [61] rfl
    go_enter Tryz.func40, Tryz.ntmps40
    obtain ⟨c0, c1, c2, c3, cf⟩ := F.out.cells
    go_wp2_with fail
    refine (HC.out _ HB.out).mono ?_
    rintro e w2 ⟨rfl, hb2⟩
    have HB2 := Lib.hid (HB.out.trans (hb2.mono HB.out.size))
    have F2 := Lib.hid (Four.keep F.out hb2)
    have hlt2 := F2.out.lt
    obtain ⟨d0, d1, d2, d3, df⟩ := F2.out.cells
    clear hb2 c0 c1 c2 c3 cf
    cases hs : shapeds [y0, y1] with
    | false =>
      have HSS := Lib.hid hs
      clear hs
      go_wp2_with fail
      go_ret
      exact ⟨by rw [HS.out, HSS.out]; rfl, HB2.out⟩
    | true =>
      have HSS := Lib.hid hs
      clear hs
      go_wp2_with fail
      refine (Tryz.strings_HasSuffix (toB op) ⟨#[61]⟩ _ (by omega)).mono ?_
      rintro e w3 ⟨rfl, rfl⟩
      rw [hsf]
      go_wp2_with fail
      refine (rcont_any w3.heap.size 0 4 [[60, 61], [62, 61], [61, 61], [33, 61]] op _ (lit4 w3) (by simp)).mono ?_
      rintro e w4 ⟨rfl, rfl⟩
      rw [hin]
      obtain ⟨g, off, hAe, _, hg, hLx⟩ := HXA.out _ HB2.out (by simp)
      subst hAe
      obtain ⟨v0, v1, v2, v3, p0, p1, p2, p3, hxy⟩ := ex0 hLx
      obtain ⟨n5, A5, k5, c5, nm5, hv, hq5⟩ := hxy.form
      simp only [Value.agg.injEq, Array.mk.injEq, List.cons.injEq, and_true] at hv
      obtain ⟨rfl, rfl, rfl, rfl⟩ := hv
      have HTg := Lib.hid (show target y0 = (y0.op == [101] || y0.op == [118] && isNm nm5) by rw [hq5]; rfl)
      clear hxy hLx hq5
      go_wp2_with fail
      refine (rtarget_any y0.op nm5 n5 A5 k5 c5 _).mono ?_
      rintro e w5 ⟨rfl, hb5⟩
      have HB5 := Lib.hid ((HB2.out.alloc HB2.out.size (.cells #[.string ⟨#[60, 61]⟩, .string ⟨#[62, 61]⟩, .string ⟨#[61, 61]⟩, .string ⟨#[33, 61]⟩] 9)).trans (hb5.mono (HB2.out.alloc HB2.out.size (.cells #[.string ⟨#[60, 61]⟩, .string ⟨#[62, 61]⟩, .string ⟨#[61, 61]⟩, .string ⟨#[33, 61]⟩] 9)).size))
      clear hb5
      go_wp2_with fail
      go_ret
      exact ⟨by rw [HS.out, HSS.out, HTg.out]; rfl, HB5.out⟩
  · have hsf : Lib.hasSuffix (toB op).data.toList (⟨#[61]⟩ : ByteArray).data.toList = true := by rw [toB_data, HOp.out]; rfl
    have hin : decide (op ∈ ([[60, 61], [62, 61], [61, 61], [33, 61]] : List (List UInt8))) = false := by rw [HOp.out]; rfl
    have f0 := cmpB (b := false) HOp.out [110] rfl
    have f1 := cmpB (b := false) HOp.out [118] rfl
    have f2 := cmpB (b := false) HOp.out [101] rfl
    have f3 := cmpB (b := false) HOp.out [117, 45] rfl
    have f4 := cmpB (b := false) HOp.out [117, 43] rfl
    have f5 := cmpB (b := false) HOp.out [33] rfl
    have f6 := cmpB (b := false) HOp.out [126] rfl
    have f7 := cmpB (b := false) HOp.out [43, 43, 118] rfl
    have f8 := cmpB (b := false) HOp.out [45, 45, 118] rfl
    have f9 := cmpB (b := false) HOp.out [118, 43, 43] rfl
    have f10 := cmpB (b := false) HOp.out [118, 45, 45] rfl
    have f11 := cmpB (b := false) HOp.out [63] rfl
    have f12 := cmpB (b := false) HOp.out [42] rfl
    have f13 := cmpB (b := false) HOp.out [47] rfl
    have f14 := cmpB (b := false) HOp.out [37] rfl
    have f15 := cmpB (b := false) HOp.out [43] rfl
    have f16 := cmpB (b := false) HOp.out [45] rfl
    have f17 := cmpB (b := false) HOp.out [60, 60] rfl
    have f18 := cmpB (b := false) HOp.out [62, 62] rfl
    have f19 := cmpB (b := false) HOp.out [60] rfl
    have f20 := cmpB (b := false) HOp.out [60, 61] rfl
    have f21 := cmpB (b := false) HOp.out [62] rfl
    have f22 := cmpB (b := false) HOp.out [62, 61] rfl
    have f23 := cmpB (b := false) HOp.out [61, 61] rfl
    have f24 := cmpB (b := false) HOp.out [33, 61] rfl
    have f25 := cmpB (b := false) HOp.out [38] rfl
    have f26 := cmpB (b := false) HOp.out [94] rfl
    have f27 := cmpB (b := false) HOp.out [124] rfl
    have f28 := cmpB (b := false) HOp.out [38, 38] rfl
    have f29 := cmpB (b := false) HOp.out [124, 124] rfl
    have f30 := cmpB (b := false) HOp.out [44] rfl
    have f31 := cmpB (b := false) HOp.out [61] rfl
    have f32 := cmpB (b := true) HOp.out [42, 61] rfl
    go_enter Tryz.func40, Tryz.ntmps40
    obtain ⟨c0, c1, c2, c3, cf⟩ := F.out.cells
    go_wp2_with fail
    refine (HC.out _ HB.out).mono ?_
    rintro e w2 ⟨rfl, hb2⟩
    have HB2 := Lib.hid (HB.out.trans (hb2.mono HB.out.size))
    have F2 := Lib.hid (Four.keep F.out hb2)
    have hlt2 := F2.out.lt
    obtain ⟨d0, d1, d2, d3, df⟩ := F2.out.cells
    clear hb2 c0 c1 c2 c3 cf
    cases hs : shapeds [y0, y1] with
    | false =>
      have HSS := Lib.hid hs
      clear hs
      go_wp2_with fail
      go_ret
      exact ⟨by rw [HS.out, HSS.out]; rfl, HB2.out⟩
    | true =>
      have HSS := Lib.hid hs
      clear hs
      go_wp2_with fail
      refine (Tryz.strings_HasSuffix (toB op) ⟨#[61]⟩ _ (by omega)).mono ?_
      rintro e w3 ⟨rfl, rfl⟩
      rw [hsf]
      go_wp2_with fail
      refine (rcont_any w3.heap.size 0 4 [[60, 61], [62, 61], [61, 61], [33, 61]] op _ (lit4 w3) (by simp)).mono ?_
      rintro e w4 ⟨rfl, rfl⟩
      rw [hin]
      obtain ⟨g, off, hAe, _, hg, hLx⟩ := HXA.out _ HB2.out (by simp)
      subst hAe
      obtain ⟨v0, v1, v2, v3, p0, p1, p2, p3, hxy⟩ := ex0 hLx
      obtain ⟨n5, A5, k5, c5, nm5, hv, hq5⟩ := hxy.form
      simp only [Value.agg.injEq, Array.mk.injEq, List.cons.injEq, and_true] at hv
      obtain ⟨rfl, rfl, rfl, rfl⟩ := hv
      have HTg := Lib.hid (show target y0 = (y0.op == [101] || y0.op == [118] && isNm nm5) by rw [hq5]; rfl)
      clear hxy hLx hq5
      go_wp2_with fail
      refine (rtarget_any y0.op nm5 n5 A5 k5 c5 _).mono ?_
      rintro e w5 ⟨rfl, hb5⟩
      have HB5 := Lib.hid ((HB2.out.alloc HB2.out.size (.cells #[.string ⟨#[60, 61]⟩, .string ⟨#[62, 61]⟩, .string ⟨#[61, 61]⟩, .string ⟨#[33, 61]⟩] 9)).trans (hb5.mono (HB2.out.alloc HB2.out.size (.cells #[.string ⟨#[60, 61]⟩, .string ⟨#[62, 61]⟩, .string ⟨#[61, 61]⟩, .string ⟨#[33, 61]⟩] 9)).size))
      clear hb5
      go_wp2_with fail
      go_ret
      exact ⟨by rw [HS.out, HSS.out, HTg.out]; rfl, HB5.out⟩
  · have hsf : Lib.hasSuffix (toB op).data.toList (⟨#[61]⟩ : ByteArray).data.toList = true := by rw [toB_data, HOp.out]; rfl
    have hin : decide (op ∈ ([[60, 61], [62, 61], [61, 61], [33, 61]] : List (List UInt8))) = false := by rw [HOp.out]; rfl
    have f0 := cmpB (b := false) HOp.out [110] rfl
    have f1 := cmpB (b := false) HOp.out [118] rfl
    have f2 := cmpB (b := false) HOp.out [101] rfl
    have f3 := cmpB (b := false) HOp.out [117, 45] rfl
    have f4 := cmpB (b := false) HOp.out [117, 43] rfl
    have f5 := cmpB (b := false) HOp.out [33] rfl
    have f6 := cmpB (b := false) HOp.out [126] rfl
    have f7 := cmpB (b := false) HOp.out [43, 43, 118] rfl
    have f8 := cmpB (b := false) HOp.out [45, 45, 118] rfl
    have f9 := cmpB (b := false) HOp.out [118, 43, 43] rfl
    have f10 := cmpB (b := false) HOp.out [118, 45, 45] rfl
    have f11 := cmpB (b := false) HOp.out [63] rfl
    have f12 := cmpB (b := false) HOp.out [42] rfl
    have f13 := cmpB (b := false) HOp.out [47] rfl
    have f14 := cmpB (b := false) HOp.out [37] rfl
    have f15 := cmpB (b := false) HOp.out [43] rfl
    have f16 := cmpB (b := false) HOp.out [45] rfl
    have f17 := cmpB (b := false) HOp.out [60, 60] rfl
    have f18 := cmpB (b := false) HOp.out [62, 62] rfl
    have f19 := cmpB (b := false) HOp.out [60] rfl
    have f20 := cmpB (b := false) HOp.out [60, 61] rfl
    have f21 := cmpB (b := false) HOp.out [62] rfl
    have f22 := cmpB (b := false) HOp.out [62, 61] rfl
    have f23 := cmpB (b := false) HOp.out [61, 61] rfl
    have f24 := cmpB (b := false) HOp.out [33, 61] rfl
    have f25 := cmpB (b := false) HOp.out [38] rfl
    have f26 := cmpB (b := false) HOp.out [94] rfl
    have f27 := cmpB (b := false) HOp.out [124] rfl
    have f28 := cmpB (b := false) HOp.out [38, 38] rfl
    have f29 := cmpB (b := false) HOp.out [124, 124] rfl
    have f30 := cmpB (b := false) HOp.out [44] rfl
    have f31 := cmpB (b := false) HOp.out [61] rfl
    have f32 := cmpB (b := false) HOp.out [42, 61] rfl
    have f33 := cmpB (b := true) HOp.out [47, 61] rfl
    go_enter Tryz.func40, Tryz.ntmps40
    obtain ⟨c0, c1, c2, c3, cf⟩ := F.out.cells
    go_wp2_with fail
    refine (HC.out _ HB.out).mono ?_
    rintro e w2 ⟨rfl, hb2⟩
    have HB2 := Lib.hid (HB.out.trans (hb2.mono HB.out.size))
    have F2 := Lib.hid (Four.keep F.out hb2)
    have hlt2 := F2.out.lt
    obtain ⟨d0, d1, d2, d3, df⟩ := F2.out.cells
    clear hb2 c0 c1 c2 c3 cf
    cases hs : shapeds [y0, y1] with
    | false =>
      have HSS := Lib.hid hs
      clear hs
      go_wp2_with fail
      go_ret
      exact ⟨by rw [HS.out, HSS.out]; rfl, HB2.out⟩
    | true =>
      have HSS := Lib.hid hs
      clear hs
      go_wp2_with fail
      refine (Tryz.strings_HasSuffix (toB op) ⟨#[61]⟩ _ (by omega)).mono ?_
      rintro e w3 ⟨rfl, rfl⟩
      rw [hsf]
      go_wp2_with fail
      refine (rcont_any w3.heap.size 0 4 [[60, 61], [62, 61], [61, 61], [33, 61]] op _ (lit4 w3) (by simp)).mono ?_
      rintro e w4 ⟨rfl, rfl⟩
      rw [hin]
      obtain ⟨g, off, hAe, _, hg, hLx⟩ := HXA.out _ HB2.out (by simp)
      subst hAe
      obtain ⟨v0, v1, v2, v3, p0, p1, p2, p3, hxy⟩ := ex0 hLx
      obtain ⟨n5, A5, k5, c5, nm5, hv, hq5⟩ := hxy.form
      simp only [Value.agg.injEq, Array.mk.injEq, List.cons.injEq, and_true] at hv
      obtain ⟨rfl, rfl, rfl, rfl⟩ := hv
      have HTg := Lib.hid (show target y0 = (y0.op == [101] || y0.op == [118] && isNm nm5) by rw [hq5]; rfl)
      clear hxy hLx hq5
      go_wp2_with fail
      refine (rtarget_any y0.op nm5 n5 A5 k5 c5 _).mono ?_
      rintro e w5 ⟨rfl, hb5⟩
      have HB5 := Lib.hid ((HB2.out.alloc HB2.out.size (.cells #[.string ⟨#[60, 61]⟩, .string ⟨#[62, 61]⟩, .string ⟨#[61, 61]⟩, .string ⟨#[33, 61]⟩] 9)).trans (hb5.mono (HB2.out.alloc HB2.out.size (.cells #[.string ⟨#[60, 61]⟩, .string ⟨#[62, 61]⟩, .string ⟨#[61, 61]⟩, .string ⟨#[33, 61]⟩] 9)).size))
      clear hb5
      go_wp2_with fail
      go_ret
      exact ⟨by rw [HS.out, HSS.out, HTg.out]; rfl, HB5.out⟩
  · have hsf : Lib.hasSuffix (toB op).data.toList (⟨#[61]⟩ : ByteArray).data.toList = true := by rw [toB_data, HOp.out]; rfl
    have hin : decide (op ∈ ([[60, 61], [62, 61], [61, 61], [33, 61]] : List (List UInt8))) = false := by rw [HOp.out]; rfl
    have f0 := cmpB (b := false) HOp.out [110] rfl
    have f1 := cmpB (b := false) HOp.out [118] rfl
    have f2 := cmpB (b := false) HOp.out [101] rfl
    have f3 := cmpB (b := false) HOp.out [117, 45] rfl
    have f4 := cmpB (b := false) HOp.out [117, 43] rfl
    have f5 := cmpB (b := false) HOp.out [33] rfl
    have f6 := cmpB (b := false) HOp.out [126] rfl
    have f7 := cmpB (b := false) HOp.out [43, 43, 118] rfl
    have f8 := cmpB (b := false) HOp.out [45, 45, 118] rfl
    have f9 := cmpB (b := false) HOp.out [118, 43, 43] rfl
    have f10 := cmpB (b := false) HOp.out [118, 45, 45] rfl
    have f11 := cmpB (b := false) HOp.out [63] rfl
    have f12 := cmpB (b := false) HOp.out [42] rfl
    have f13 := cmpB (b := false) HOp.out [47] rfl
    have f14 := cmpB (b := false) HOp.out [37] rfl
    have f15 := cmpB (b := false) HOp.out [43] rfl
    have f16 := cmpB (b := false) HOp.out [45] rfl
    have f17 := cmpB (b := false) HOp.out [60, 60] rfl
    have f18 := cmpB (b := false) HOp.out [62, 62] rfl
    have f19 := cmpB (b := false) HOp.out [60] rfl
    have f20 := cmpB (b := false) HOp.out [60, 61] rfl
    have f21 := cmpB (b := false) HOp.out [62] rfl
    have f22 := cmpB (b := false) HOp.out [62, 61] rfl
    have f23 := cmpB (b := false) HOp.out [61, 61] rfl
    have f24 := cmpB (b := false) HOp.out [33, 61] rfl
    have f25 := cmpB (b := false) HOp.out [38] rfl
    have f26 := cmpB (b := false) HOp.out [94] rfl
    have f27 := cmpB (b := false) HOp.out [124] rfl
    have f28 := cmpB (b := false) HOp.out [38, 38] rfl
    have f29 := cmpB (b := false) HOp.out [124, 124] rfl
    have f30 := cmpB (b := false) HOp.out [44] rfl
    have f31 := cmpB (b := false) HOp.out [61] rfl
    have f32 := cmpB (b := false) HOp.out [42, 61] rfl
    have f33 := cmpB (b := false) HOp.out [47, 61] rfl
    have f34 := cmpB (b := true) HOp.out [37, 61] rfl
    go_enter Tryz.func40, Tryz.ntmps40
    obtain ⟨c0, c1, c2, c3, cf⟩ := F.out.cells
    go_wp2_with fail
    refine (HC.out _ HB.out).mono ?_
    rintro e w2 ⟨rfl, hb2⟩
    have HB2 := Lib.hid (HB.out.trans (hb2.mono HB.out.size))
    have F2 := Lib.hid (Four.keep F.out hb2)
    have hlt2 := F2.out.lt
    obtain ⟨d0, d1, d2, d3, df⟩ := F2.out.cells
    clear hb2 c0 c1 c2 c3 cf
    cases hs : shapeds [y0, y1] with
    | false =>
      have HSS := Lib.hid hs
      clear hs
      go_wp2_with fail
      go_ret
      exact ⟨by rw [HS.out, HSS.out]; rfl, HB2.out⟩
    | true =>
      have HSS := Lib.hid hs
      clear hs
      go_wp2_with fail
      refine (Tryz.strings_HasSuffix (toB op) ⟨#[61]⟩ _ (by omega)).mono ?_
      rintro e w3 ⟨rfl, rfl⟩
      rw [hsf]
      go_wp2_with fail
      refine (rcont_any w3.heap.size 0 4 [[60, 61], [62, 61], [61, 61], [33, 61]] op _ (lit4 w3) (by simp)).mono ?_
      rintro e w4 ⟨rfl, rfl⟩
      rw [hin]
      obtain ⟨g, off, hAe, _, hg, hLx⟩ := HXA.out _ HB2.out (by simp)
      subst hAe
      obtain ⟨v0, v1, v2, v3, p0, p1, p2, p3, hxy⟩ := ex0 hLx
      obtain ⟨n5, A5, k5, c5, nm5, hv, hq5⟩ := hxy.form
      simp only [Value.agg.injEq, Array.mk.injEq, List.cons.injEq, and_true] at hv
      obtain ⟨rfl, rfl, rfl, rfl⟩ := hv
      have HTg := Lib.hid (show target y0 = (y0.op == [101] || y0.op == [118] && isNm nm5) by rw [hq5]; rfl)
      clear hxy hLx hq5
      go_wp2_with fail
      refine (rtarget_any y0.op nm5 n5 A5 k5 c5 _).mono ?_
      rintro e w5 ⟨rfl, hb5⟩
      have HB5 := Lib.hid ((HB2.out.alloc HB2.out.size (.cells #[.string ⟨#[60, 61]⟩, .string ⟨#[62, 61]⟩, .string ⟨#[61, 61]⟩, .string ⟨#[33, 61]⟩] 9)).trans (hb5.mono (HB2.out.alloc HB2.out.size (.cells #[.string ⟨#[60, 61]⟩, .string ⟨#[62, 61]⟩, .string ⟨#[61, 61]⟩, .string ⟨#[33, 61]⟩] 9)).size))
      clear hb5
      go_wp2_with fail
      go_ret
      exact ⟨by rw [HS.out, HSS.out, HTg.out]; rfl, HB5.out⟩
  · have hsf : Lib.hasSuffix (toB op).data.toList (⟨#[61]⟩ : ByteArray).data.toList = true := by rw [toB_data, HOp.out]; rfl
    have hin : decide (op ∈ ([[60, 61], [62, 61], [61, 61], [33, 61]] : List (List UInt8))) = false := by rw [HOp.out]; rfl
    have f0 := cmpB (b := false) HOp.out [110] rfl
    have f1 := cmpB (b := false) HOp.out [118] rfl
    have f2 := cmpB (b := false) HOp.out [101] rfl
    have f3 := cmpB (b := false) HOp.out [117, 45] rfl
    have f4 := cmpB (b := false) HOp.out [117, 43] rfl
    have f5 := cmpB (b := false) HOp.out [33] rfl
    have f6 := cmpB (b := false) HOp.out [126] rfl
    have f7 := cmpB (b := false) HOp.out [43, 43, 118] rfl
    have f8 := cmpB (b := false) HOp.out [45, 45, 118] rfl
    have f9 := cmpB (b := false) HOp.out [118, 43, 43] rfl
    have f10 := cmpB (b := false) HOp.out [118, 45, 45] rfl
    have f11 := cmpB (b := false) HOp.out [63] rfl
    have f12 := cmpB (b := false) HOp.out [42] rfl
    have f13 := cmpB (b := false) HOp.out [47] rfl
    have f14 := cmpB (b := false) HOp.out [37] rfl
    have f15 := cmpB (b := false) HOp.out [43] rfl
    have f16 := cmpB (b := false) HOp.out [45] rfl
    have f17 := cmpB (b := false) HOp.out [60, 60] rfl
    have f18 := cmpB (b := false) HOp.out [62, 62] rfl
    have f19 := cmpB (b := false) HOp.out [60] rfl
    have f20 := cmpB (b := false) HOp.out [60, 61] rfl
    have f21 := cmpB (b := false) HOp.out [62] rfl
    have f22 := cmpB (b := false) HOp.out [62, 61] rfl
    have f23 := cmpB (b := false) HOp.out [61, 61] rfl
    have f24 := cmpB (b := false) HOp.out [33, 61] rfl
    have f25 := cmpB (b := false) HOp.out [38] rfl
    have f26 := cmpB (b := false) HOp.out [94] rfl
    have f27 := cmpB (b := false) HOp.out [124] rfl
    have f28 := cmpB (b := false) HOp.out [38, 38] rfl
    have f29 := cmpB (b := false) HOp.out [124, 124] rfl
    have f30 := cmpB (b := false) HOp.out [44] rfl
    have f31 := cmpB (b := false) HOp.out [61] rfl
    have f32 := cmpB (b := false) HOp.out [42, 61] rfl
    have f33 := cmpB (b := false) HOp.out [47, 61] rfl
    have f34 := cmpB (b := false) HOp.out [37, 61] rfl
    have f35 := cmpB (b := true) HOp.out [43, 61] rfl
    go_enter Tryz.func40, Tryz.ntmps40
    obtain ⟨c0, c1, c2, c3, cf⟩ := F.out.cells
    go_wp2_with fail
    refine (HC.out _ HB.out).mono ?_
    rintro e w2 ⟨rfl, hb2⟩
    have HB2 := Lib.hid (HB.out.trans (hb2.mono HB.out.size))
    have F2 := Lib.hid (Four.keep F.out hb2)
    have hlt2 := F2.out.lt
    obtain ⟨d0, d1, d2, d3, df⟩ := F2.out.cells
    clear hb2 c0 c1 c2 c3 cf
    cases hs : shapeds [y0, y1] with
    | false =>
      have HSS := Lib.hid hs
      clear hs
      go_wp2_with fail
      go_ret
      exact ⟨by rw [HS.out, HSS.out]; rfl, HB2.out⟩
    | true =>
      have HSS := Lib.hid hs
      clear hs
      go_wp2_with fail
      refine (Tryz.strings_HasSuffix (toB op) ⟨#[61]⟩ _ (by omega)).mono ?_
      rintro e w3 ⟨rfl, rfl⟩
      rw [hsf]
      go_wp2_with fail
      refine (rcont_any w3.heap.size 0 4 [[60, 61], [62, 61], [61, 61], [33, 61]] op _ (lit4 w3) (by simp)).mono ?_
      rintro e w4 ⟨rfl, rfl⟩
      rw [hin]
      obtain ⟨g, off, hAe, _, hg, hLx⟩ := HXA.out _ HB2.out (by simp)
      subst hAe
      obtain ⟨v0, v1, v2, v3, p0, p1, p2, p3, hxy⟩ := ex0 hLx
      obtain ⟨n5, A5, k5, c5, nm5, hv, hq5⟩ := hxy.form
      simp only [Value.agg.injEq, Array.mk.injEq, List.cons.injEq, and_true] at hv
      obtain ⟨rfl, rfl, rfl, rfl⟩ := hv
      have HTg := Lib.hid (show target y0 = (y0.op == [101] || y0.op == [118] && isNm nm5) by rw [hq5]; rfl)
      clear hxy hLx hq5
      go_wp2_with fail
      refine (rtarget_any y0.op nm5 n5 A5 k5 c5 _).mono ?_
      rintro e w5 ⟨rfl, hb5⟩
      have HB5 := Lib.hid ((HB2.out.alloc HB2.out.size (.cells #[.string ⟨#[60, 61]⟩, .string ⟨#[62, 61]⟩, .string ⟨#[61, 61]⟩, .string ⟨#[33, 61]⟩] 9)).trans (hb5.mono (HB2.out.alloc HB2.out.size (.cells #[.string ⟨#[60, 61]⟩, .string ⟨#[62, 61]⟩, .string ⟨#[61, 61]⟩, .string ⟨#[33, 61]⟩] 9)).size))
      clear hb5
      go_wp2_with fail
      go_ret
      exact ⟨by rw [HS.out, HSS.out, HTg.out]; rfl, HB5.out⟩
  · have hsf : Lib.hasSuffix (toB op).data.toList (⟨#[61]⟩ : ByteArray).data.toList = true := by rw [toB_data, HOp.out]; rfl
    have hin : decide (op ∈ ([[60, 61], [62, 61], [61, 61], [33, 61]] : List (List UInt8))) = false := by rw [HOp.out]; rfl
    have f0 := cmpB (b := false) HOp.out [110] rfl
    have f1 := cmpB (b := false) HOp.out [118] rfl
    have f2 := cmpB (b := false) HOp.out [101] rfl
    have f3 := cmpB (b := false) HOp.out [117, 45] rfl
    have f4 := cmpB (b := false) HOp.out [117, 43] rfl
    have f5 := cmpB (b := false) HOp.out [33] rfl
    have f6 := cmpB (b := false) HOp.out [126] rfl
    have f7 := cmpB (b := false) HOp.out [43, 43, 118] rfl
    have f8 := cmpB (b := false) HOp.out [45, 45, 118] rfl
    have f9 := cmpB (b := false) HOp.out [118, 43, 43] rfl
    have f10 := cmpB (b := false) HOp.out [118, 45, 45] rfl
    have f11 := cmpB (b := false) HOp.out [63] rfl
    have f12 := cmpB (b := false) HOp.out [42] rfl
    have f13 := cmpB (b := false) HOp.out [47] rfl
    have f14 := cmpB (b := false) HOp.out [37] rfl
    have f15 := cmpB (b := false) HOp.out [43] rfl
    have f16 := cmpB (b := false) HOp.out [45] rfl
    have f17 := cmpB (b := false) HOp.out [60, 60] rfl
    have f18 := cmpB (b := false) HOp.out [62, 62] rfl
    have f19 := cmpB (b := false) HOp.out [60] rfl
    have f20 := cmpB (b := false) HOp.out [60, 61] rfl
    have f21 := cmpB (b := false) HOp.out [62] rfl
    have f22 := cmpB (b := false) HOp.out [62, 61] rfl
    have f23 := cmpB (b := false) HOp.out [61, 61] rfl
    have f24 := cmpB (b := false) HOp.out [33, 61] rfl
    have f25 := cmpB (b := false) HOp.out [38] rfl
    have f26 := cmpB (b := false) HOp.out [94] rfl
    have f27 := cmpB (b := false) HOp.out [124] rfl
    have f28 := cmpB (b := false) HOp.out [38, 38] rfl
    have f29 := cmpB (b := false) HOp.out [124, 124] rfl
    have f30 := cmpB (b := false) HOp.out [44] rfl
    have f31 := cmpB (b := false) HOp.out [61] rfl
    have f32 := cmpB (b := false) HOp.out [42, 61] rfl
    have f33 := cmpB (b := false) HOp.out [47, 61] rfl
    have f34 := cmpB (b := false) HOp.out [37, 61] rfl
    have f35 := cmpB (b := false) HOp.out [43, 61] rfl
    have f36 := cmpB (b := true) HOp.out [45, 61] rfl
    go_enter Tryz.func40, Tryz.ntmps40
    obtain ⟨c0, c1, c2, c3, cf⟩ := F.out.cells
    go_wp2_with fail
    refine (HC.out _ HB.out).mono ?_
    rintro e w2 ⟨rfl, hb2⟩
    have HB2 := Lib.hid (HB.out.trans (hb2.mono HB.out.size))
    have F2 := Lib.hid (Four.keep F.out hb2)
    have hlt2 := F2.out.lt
    obtain ⟨d0, d1, d2, d3, df⟩ := F2.out.cells
    clear hb2 c0 c1 c2 c3 cf
    cases hs : shapeds [y0, y1] with
    | false =>
      have HSS := Lib.hid hs
      clear hs
      go_wp2_with fail
      go_ret
      exact ⟨by rw [HS.out, HSS.out]; rfl, HB2.out⟩
    | true =>
      have HSS := Lib.hid hs
      clear hs
      go_wp2_with fail
      refine (Tryz.strings_HasSuffix (toB op) ⟨#[61]⟩ _ (by omega)).mono ?_
      rintro e w3 ⟨rfl, rfl⟩
      rw [hsf]
      go_wp2_with fail
      refine (rcont_any w3.heap.size 0 4 [[60, 61], [62, 61], [61, 61], [33, 61]] op _ (lit4 w3) (by simp)).mono ?_
      rintro e w4 ⟨rfl, rfl⟩
      rw [hin]
      obtain ⟨g, off, hAe, _, hg, hLx⟩ := HXA.out _ HB2.out (by simp)
      subst hAe
      obtain ⟨v0, v1, v2, v3, p0, p1, p2, p3, hxy⟩ := ex0 hLx
      obtain ⟨n5, A5, k5, c5, nm5, hv, hq5⟩ := hxy.form
      simp only [Value.agg.injEq, Array.mk.injEq, List.cons.injEq, and_true] at hv
      obtain ⟨rfl, rfl, rfl, rfl⟩ := hv
      have HTg := Lib.hid (show target y0 = (y0.op == [101] || y0.op == [118] && isNm nm5) by rw [hq5]; rfl)
      clear hxy hLx hq5
      go_wp2_with fail
      refine (rtarget_any y0.op nm5 n5 A5 k5 c5 _).mono ?_
      rintro e w5 ⟨rfl, hb5⟩
      have HB5 := Lib.hid ((HB2.out.alloc HB2.out.size (.cells #[.string ⟨#[60, 61]⟩, .string ⟨#[62, 61]⟩, .string ⟨#[61, 61]⟩, .string ⟨#[33, 61]⟩] 9)).trans (hb5.mono (HB2.out.alloc HB2.out.size (.cells #[.string ⟨#[60, 61]⟩, .string ⟨#[62, 61]⟩, .string ⟨#[61, 61]⟩, .string ⟨#[33, 61]⟩] 9)).size))
      clear hb5
      go_wp2_with fail
      go_ret
      exact ⟨by rw [HS.out, HSS.out, HTg.out]; rfl, HB5.out⟩
  · have hsf : Lib.hasSuffix (toB op).data.toList (⟨#[61]⟩ : ByteArray).data.toList = true := by rw [toB_data, HOp.out]; rfl
    have hin : decide (op ∈ ([[60, 61], [62, 61], [61, 61], [33, 61]] : List (List UInt8))) = false := by rw [HOp.out]; rfl
    have f0 := cmpB (b := false) HOp.out [110] rfl
    have f1 := cmpB (b := false) HOp.out [118] rfl
    have f2 := cmpB (b := false) HOp.out [101] rfl
    have f3 := cmpB (b := false) HOp.out [117, 45] rfl
    have f4 := cmpB (b := false) HOp.out [117, 43] rfl
    have f5 := cmpB (b := false) HOp.out [33] rfl
    have f6 := cmpB (b := false) HOp.out [126] rfl
    have f7 := cmpB (b := false) HOp.out [43, 43, 118] rfl
    have f8 := cmpB (b := false) HOp.out [45, 45, 118] rfl
    have f9 := cmpB (b := false) HOp.out [118, 43, 43] rfl
    have f10 := cmpB (b := false) HOp.out [118, 45, 45] rfl
    have f11 := cmpB (b := false) HOp.out [63] rfl
    have f12 := cmpB (b := false) HOp.out [42] rfl
    have f13 := cmpB (b := false) HOp.out [47] rfl
    have f14 := cmpB (b := false) HOp.out [37] rfl
    have f15 := cmpB (b := false) HOp.out [43] rfl
    have f16 := cmpB (b := false) HOp.out [45] rfl
    have f17 := cmpB (b := false) HOp.out [60, 60] rfl
    have f18 := cmpB (b := false) HOp.out [62, 62] rfl
    have f19 := cmpB (b := false) HOp.out [60] rfl
    have f20 := cmpB (b := false) HOp.out [60, 61] rfl
    have f21 := cmpB (b := false) HOp.out [62] rfl
    have f22 := cmpB (b := false) HOp.out [62, 61] rfl
    have f23 := cmpB (b := false) HOp.out [61, 61] rfl
    have f24 := cmpB (b := false) HOp.out [33, 61] rfl
    have f25 := cmpB (b := false) HOp.out [38] rfl
    have f26 := cmpB (b := false) HOp.out [94] rfl
    have f27 := cmpB (b := false) HOp.out [124] rfl
    have f28 := cmpB (b := false) HOp.out [38, 38] rfl
    have f29 := cmpB (b := false) HOp.out [124, 124] rfl
    have f30 := cmpB (b := false) HOp.out [44] rfl
    have f31 := cmpB (b := false) HOp.out [61] rfl
    have f32 := cmpB (b := false) HOp.out [42, 61] rfl
    have f33 := cmpB (b := false) HOp.out [47, 61] rfl
    have f34 := cmpB (b := false) HOp.out [37, 61] rfl
    have f35 := cmpB (b := false) HOp.out [43, 61] rfl
    have f36 := cmpB (b := false) HOp.out [45, 61] rfl
    have f37 := cmpB (b := true) HOp.out [60, 60, 61] rfl
    go_enter Tryz.func40, Tryz.ntmps40
    obtain ⟨c0, c1, c2, c3, cf⟩ := F.out.cells
    go_wp2_with fail
    refine (HC.out _ HB.out).mono ?_
    rintro e w2 ⟨rfl, hb2⟩
    have HB2 := Lib.hid (HB.out.trans (hb2.mono HB.out.size))
    have F2 := Lib.hid (Four.keep F.out hb2)
    have hlt2 := F2.out.lt
    obtain ⟨d0, d1, d2, d3, df⟩ := F2.out.cells
    clear hb2 c0 c1 c2 c3 cf
    cases hs : shapeds [y0, y1] with
    | false =>
      have HSS := Lib.hid hs
      clear hs
      go_wp2_with fail
      go_ret
      exact ⟨by rw [HS.out, HSS.out]; rfl, HB2.out⟩
    | true =>
      have HSS := Lib.hid hs
      clear hs
      go_wp2_with fail
      refine (Tryz.strings_HasSuffix (toB op) ⟨#[61]⟩ _ (by omega)).mono ?_
      rintro e w3 ⟨rfl, rfl⟩
      rw [hsf]
      go_wp2_with fail
      refine (rcont_any w3.heap.size 0 4 [[60, 61], [62, 61], [61, 61], [33, 61]] op _ (lit4 w3) (by simp)).mono ?_
      rintro e w4 ⟨rfl, rfl⟩
      rw [hin]
      obtain ⟨g, off, hAe, _, hg, hLx⟩ := HXA.out _ HB2.out (by simp)
      subst hAe
      obtain ⟨v0, v1, v2, v3, p0, p1, p2, p3, hxy⟩ := ex0 hLx
      obtain ⟨n5, A5, k5, c5, nm5, hv, hq5⟩ := hxy.form
      simp only [Value.agg.injEq, Array.mk.injEq, List.cons.injEq, and_true] at hv
      obtain ⟨rfl, rfl, rfl, rfl⟩ := hv
      have HTg := Lib.hid (show target y0 = (y0.op == [101] || y0.op == [118] && isNm nm5) by rw [hq5]; rfl)
      clear hxy hLx hq5
      go_wp2_with fail
      refine (rtarget_any y0.op nm5 n5 A5 k5 c5 _).mono ?_
      rintro e w5 ⟨rfl, hb5⟩
      have HB5 := Lib.hid ((HB2.out.alloc HB2.out.size (.cells #[.string ⟨#[60, 61]⟩, .string ⟨#[62, 61]⟩, .string ⟨#[61, 61]⟩, .string ⟨#[33, 61]⟩] 9)).trans (hb5.mono (HB2.out.alloc HB2.out.size (.cells #[.string ⟨#[60, 61]⟩, .string ⟨#[62, 61]⟩, .string ⟨#[61, 61]⟩, .string ⟨#[33, 61]⟩] 9)).size))
      clear hb5
      go_wp2_with fail
      go_ret
      exact ⟨by rw [HS.out, HSS.out, HTg.out]; rfl, HB5.out⟩
  · have hsf : Lib.hasSuffix (toB op).data.toList (⟨#[61]⟩ : ByteArray).data.toList = true := by rw [toB_data, HOp.out]; rfl
    have hin : decide (op ∈ ([[60, 61], [62, 61], [61, 61], [33, 61]] : List (List UInt8))) = false := by rw [HOp.out]; rfl
    have f0 := cmpB (b := false) HOp.out [110] rfl
    have f1 := cmpB (b := false) HOp.out [118] rfl
    have f2 := cmpB (b := false) HOp.out [101] rfl
    have f3 := cmpB (b := false) HOp.out [117, 45] rfl
    have f4 := cmpB (b := false) HOp.out [117, 43] rfl
    have f5 := cmpB (b := false) HOp.out [33] rfl
    have f6 := cmpB (b := false) HOp.out [126] rfl
    have f7 := cmpB (b := false) HOp.out [43, 43, 118] rfl
    have f8 := cmpB (b := false) HOp.out [45, 45, 118] rfl
    have f9 := cmpB (b := false) HOp.out [118, 43, 43] rfl
    have f10 := cmpB (b := false) HOp.out [118, 45, 45] rfl
    have f11 := cmpB (b := false) HOp.out [63] rfl
    have f12 := cmpB (b := false) HOp.out [42] rfl
    have f13 := cmpB (b := false) HOp.out [47] rfl
    have f14 := cmpB (b := false) HOp.out [37] rfl
    have f15 := cmpB (b := false) HOp.out [43] rfl
    have f16 := cmpB (b := false) HOp.out [45] rfl
    have f17 := cmpB (b := false) HOp.out [60, 60] rfl
    have f18 := cmpB (b := false) HOp.out [62, 62] rfl
    have f19 := cmpB (b := false) HOp.out [60] rfl
    have f20 := cmpB (b := false) HOp.out [60, 61] rfl
    have f21 := cmpB (b := false) HOp.out [62] rfl
    have f22 := cmpB (b := false) HOp.out [62, 61] rfl
    have f23 := cmpB (b := false) HOp.out [61, 61] rfl
    have f24 := cmpB (b := false) HOp.out [33, 61] rfl
    have f25 := cmpB (b := false) HOp.out [38] rfl
    have f26 := cmpB (b := false) HOp.out [94] rfl
    have f27 := cmpB (b := false) HOp.out [124] rfl
    have f28 := cmpB (b := false) HOp.out [38, 38] rfl
    have f29 := cmpB (b := false) HOp.out [124, 124] rfl
    have f30 := cmpB (b := false) HOp.out [44] rfl
    have f31 := cmpB (b := false) HOp.out [61] rfl
    have f32 := cmpB (b := false) HOp.out [42, 61] rfl
    have f33 := cmpB (b := false) HOp.out [47, 61] rfl
    have f34 := cmpB (b := false) HOp.out [37, 61] rfl
    have f35 := cmpB (b := false) HOp.out [43, 61] rfl
    have f36 := cmpB (b := false) HOp.out [45, 61] rfl
    have f37 := cmpB (b := false) HOp.out [60, 60, 61] rfl
    have f38 := cmpB (b := true) HOp.out [62, 62, 61] rfl
    go_enter Tryz.func40, Tryz.ntmps40
    obtain ⟨c0, c1, c2, c3, cf⟩ := F.out.cells
    go_wp2_with fail
    refine (HC.out _ HB.out).mono ?_
    rintro e w2 ⟨rfl, hb2⟩
    have HB2 := Lib.hid (HB.out.trans (hb2.mono HB.out.size))
    have F2 := Lib.hid (Four.keep F.out hb2)
    have hlt2 := F2.out.lt
    obtain ⟨d0, d1, d2, d3, df⟩ := F2.out.cells
    clear hb2 c0 c1 c2 c3 cf
    cases hs : shapeds [y0, y1] with
    | false =>
      have HSS := Lib.hid hs
      clear hs
      go_wp2_with fail
      go_ret
      exact ⟨by rw [HS.out, HSS.out]; rfl, HB2.out⟩
    | true =>
      have HSS := Lib.hid hs
      clear hs
      go_wp2_with fail
      refine (Tryz.strings_HasSuffix (toB op) ⟨#[61]⟩ _ (by omega)).mono ?_
      rintro e w3 ⟨rfl, rfl⟩
      rw [hsf]
      go_wp2_with fail
      refine (rcont_any w3.heap.size 0 4 [[60, 61], [62, 61], [61, 61], [33, 61]] op _ (lit4 w3) (by simp)).mono ?_
      rintro e w4 ⟨rfl, rfl⟩
      rw [hin]
      obtain ⟨g, off, hAe, _, hg, hLx⟩ := HXA.out _ HB2.out (by simp)
      subst hAe
      obtain ⟨v0, v1, v2, v3, p0, p1, p2, p3, hxy⟩ := ex0 hLx
      obtain ⟨n5, A5, k5, c5, nm5, hv, hq5⟩ := hxy.form
      simp only [Value.agg.injEq, Array.mk.injEq, List.cons.injEq, and_true] at hv
      obtain ⟨rfl, rfl, rfl, rfl⟩ := hv
      have HTg := Lib.hid (show target y0 = (y0.op == [101] || y0.op == [118] && isNm nm5) by rw [hq5]; rfl)
      clear hxy hLx hq5
      go_wp2_with fail
      refine (rtarget_any y0.op nm5 n5 A5 k5 c5 _).mono ?_
      rintro e w5 ⟨rfl, hb5⟩
      have HB5 := Lib.hid ((HB2.out.alloc HB2.out.size (.cells #[.string ⟨#[60, 61]⟩, .string ⟨#[62, 61]⟩, .string ⟨#[61, 61]⟩, .string ⟨#[33, 61]⟩] 9)).trans (hb5.mono (HB2.out.alloc HB2.out.size (.cells #[.string ⟨#[60, 61]⟩, .string ⟨#[62, 61]⟩, .string ⟨#[61, 61]⟩, .string ⟨#[33, 61]⟩] 9)).size))
      clear hb5
      go_wp2_with fail
      go_ret
      exact ⟨by rw [HS.out, HSS.out, HTg.out]; rfl, HB5.out⟩
  · have hsf : Lib.hasSuffix (toB op).data.toList (⟨#[61]⟩ : ByteArray).data.toList = true := by rw [toB_data, HOp.out]; rfl
    have hin : decide (op ∈ ([[60, 61], [62, 61], [61, 61], [33, 61]] : List (List UInt8))) = false := by rw [HOp.out]; rfl
    have f0 := cmpB (b := false) HOp.out [110] rfl
    have f1 := cmpB (b := false) HOp.out [118] rfl
    have f2 := cmpB (b := false) HOp.out [101] rfl
    have f3 := cmpB (b := false) HOp.out [117, 45] rfl
    have f4 := cmpB (b := false) HOp.out [117, 43] rfl
    have f5 := cmpB (b := false) HOp.out [33] rfl
    have f6 := cmpB (b := false) HOp.out [126] rfl
    have f7 := cmpB (b := false) HOp.out [43, 43, 118] rfl
    have f8 := cmpB (b := false) HOp.out [45, 45, 118] rfl
    have f9 := cmpB (b := false) HOp.out [118, 43, 43] rfl
    have f10 := cmpB (b := false) HOp.out [118, 45, 45] rfl
    have f11 := cmpB (b := false) HOp.out [63] rfl
    have f12 := cmpB (b := false) HOp.out [42] rfl
    have f13 := cmpB (b := false) HOp.out [47] rfl
    have f14 := cmpB (b := false) HOp.out [37] rfl
    have f15 := cmpB (b := false) HOp.out [43] rfl
    have f16 := cmpB (b := false) HOp.out [45] rfl
    have f17 := cmpB (b := false) HOp.out [60, 60] rfl
    have f18 := cmpB (b := false) HOp.out [62, 62] rfl
    have f19 := cmpB (b := false) HOp.out [60] rfl
    have f20 := cmpB (b := false) HOp.out [60, 61] rfl
    have f21 := cmpB (b := false) HOp.out [62] rfl
    have f22 := cmpB (b := false) HOp.out [62, 61] rfl
    have f23 := cmpB (b := false) HOp.out [61, 61] rfl
    have f24 := cmpB (b := false) HOp.out [33, 61] rfl
    have f25 := cmpB (b := false) HOp.out [38] rfl
    have f26 := cmpB (b := false) HOp.out [94] rfl
    have f27 := cmpB (b := false) HOp.out [124] rfl
    have f28 := cmpB (b := false) HOp.out [38, 38] rfl
    have f29 := cmpB (b := false) HOp.out [124, 124] rfl
    have f30 := cmpB (b := false) HOp.out [44] rfl
    have f31 := cmpB (b := false) HOp.out [61] rfl
    have f32 := cmpB (b := false) HOp.out [42, 61] rfl
    have f33 := cmpB (b := false) HOp.out [47, 61] rfl
    have f34 := cmpB (b := false) HOp.out [37, 61] rfl
    have f35 := cmpB (b := false) HOp.out [43, 61] rfl
    have f36 := cmpB (b := false) HOp.out [45, 61] rfl
    have f37 := cmpB (b := false) HOp.out [60, 60, 61] rfl
    have f38 := cmpB (b := false) HOp.out [62, 62, 61] rfl
    have f39 := cmpB (b := true) HOp.out [38, 61] rfl
    go_enter Tryz.func40, Tryz.ntmps40
    obtain ⟨c0, c1, c2, c3, cf⟩ := F.out.cells
    go_wp2_with fail
    refine (HC.out _ HB.out).mono ?_
    rintro e w2 ⟨rfl, hb2⟩
    have HB2 := Lib.hid (HB.out.trans (hb2.mono HB.out.size))
    have F2 := Lib.hid (Four.keep F.out hb2)
    have hlt2 := F2.out.lt
    obtain ⟨d0, d1, d2, d3, df⟩ := F2.out.cells
    clear hb2 c0 c1 c2 c3 cf
    cases hs : shapeds [y0, y1] with
    | false =>
      have HSS := Lib.hid hs
      clear hs
      go_wp2_with fail
      go_ret
      exact ⟨by rw [HS.out, HSS.out]; rfl, HB2.out⟩
    | true =>
      have HSS := Lib.hid hs
      clear hs
      go_wp2_with fail
      refine (Tryz.strings_HasSuffix (toB op) ⟨#[61]⟩ _ (by omega)).mono ?_
      rintro e w3 ⟨rfl, rfl⟩
      rw [hsf]
      go_wp2_with fail
      refine (rcont_any w3.heap.size 0 4 [[60, 61], [62, 61], [61, 61], [33, 61]] op _ (lit4 w3) (by simp)).mono ?_
      rintro e w4 ⟨rfl, rfl⟩
      rw [hin]
      obtain ⟨g, off, hAe, _, hg, hLx⟩ := HXA.out _ HB2.out (by simp)
      subst hAe
      obtain ⟨v0, v1, v2, v3, p0, p1, p2, p3, hxy⟩ := ex0 hLx
      obtain ⟨n5, A5, k5, c5, nm5, hv, hq5⟩ := hxy.form
      simp only [Value.agg.injEq, Array.mk.injEq, List.cons.injEq, and_true] at hv
      obtain ⟨rfl, rfl, rfl, rfl⟩ := hv
      have HTg := Lib.hid (show target y0 = (y0.op == [101] || y0.op == [118] && isNm nm5) by rw [hq5]; rfl)
      clear hxy hLx hq5
      go_wp2_with fail
      refine (rtarget_any y0.op nm5 n5 A5 k5 c5 _).mono ?_
      rintro e w5 ⟨rfl, hb5⟩
      have HB5 := Lib.hid ((HB2.out.alloc HB2.out.size (.cells #[.string ⟨#[60, 61]⟩, .string ⟨#[62, 61]⟩, .string ⟨#[61, 61]⟩, .string ⟨#[33, 61]⟩] 9)).trans (hb5.mono (HB2.out.alloc HB2.out.size (.cells #[.string ⟨#[60, 61]⟩, .string ⟨#[62, 61]⟩, .string ⟨#[61, 61]⟩, .string ⟨#[33, 61]⟩] 9)).size))
      clear hb5
      go_wp2_with fail
      go_ret
      exact ⟨by rw [HS.out, HSS.out, HTg.out]; rfl, HB5.out⟩
  · have hsf : Lib.hasSuffix (toB op).data.toList (⟨#[61]⟩ : ByteArray).data.toList = true := by rw [toB_data, HOp.out]; rfl
    have hin : decide (op ∈ ([[60, 61], [62, 61], [61, 61], [33, 61]] : List (List UInt8))) = false := by rw [HOp.out]; rfl
    have f0 := cmpB (b := false) HOp.out [110] rfl
    have f1 := cmpB (b := false) HOp.out [118] rfl
    have f2 := cmpB (b := false) HOp.out [101] rfl
    have f3 := cmpB (b := false) HOp.out [117, 45] rfl
    have f4 := cmpB (b := false) HOp.out [117, 43] rfl
    have f5 := cmpB (b := false) HOp.out [33] rfl
    have f6 := cmpB (b := false) HOp.out [126] rfl
    have f7 := cmpB (b := false) HOp.out [43, 43, 118] rfl
    have f8 := cmpB (b := false) HOp.out [45, 45, 118] rfl
    have f9 := cmpB (b := false) HOp.out [118, 43, 43] rfl
    have f10 := cmpB (b := false) HOp.out [118, 45, 45] rfl
    have f11 := cmpB (b := false) HOp.out [63] rfl
    have f12 := cmpB (b := false) HOp.out [42] rfl
    have f13 := cmpB (b := false) HOp.out [47] rfl
    have f14 := cmpB (b := false) HOp.out [37] rfl
    have f15 := cmpB (b := false) HOp.out [43] rfl
    have f16 := cmpB (b := false) HOp.out [45] rfl
    have f17 := cmpB (b := false) HOp.out [60, 60] rfl
    have f18 := cmpB (b := false) HOp.out [62, 62] rfl
    have f19 := cmpB (b := false) HOp.out [60] rfl
    have f20 := cmpB (b := false) HOp.out [60, 61] rfl
    have f21 := cmpB (b := false) HOp.out [62] rfl
    have f22 := cmpB (b := false) HOp.out [62, 61] rfl
    have f23 := cmpB (b := false) HOp.out [61, 61] rfl
    have f24 := cmpB (b := false) HOp.out [33, 61] rfl
    have f25 := cmpB (b := false) HOp.out [38] rfl
    have f26 := cmpB (b := false) HOp.out [94] rfl
    have f27 := cmpB (b := false) HOp.out [124] rfl
    have f28 := cmpB (b := false) HOp.out [38, 38] rfl
    have f29 := cmpB (b := false) HOp.out [124, 124] rfl
    have f30 := cmpB (b := false) HOp.out [44] rfl
    have f31 := cmpB (b := false) HOp.out [61] rfl
    have f32 := cmpB (b := false) HOp.out [42, 61] rfl
    have f33 := cmpB (b := false) HOp.out [47, 61] rfl
    have f34 := cmpB (b := false) HOp.out [37, 61] rfl
    have f35 := cmpB (b := false) HOp.out [43, 61] rfl
    have f36 := cmpB (b := false) HOp.out [45, 61] rfl
    have f37 := cmpB (b := false) HOp.out [60, 60, 61] rfl
    have f38 := cmpB (b := false) HOp.out [62, 62, 61] rfl
    have f39 := cmpB (b := false) HOp.out [38, 61] rfl
    have f40 := cmpB (b := true) HOp.out [94, 61] rfl
    go_enter Tryz.func40, Tryz.ntmps40
    obtain ⟨c0, c1, c2, c3, cf⟩ := F.out.cells
    go_wp2_with fail
    refine (HC.out _ HB.out).mono ?_
    rintro e w2 ⟨rfl, hb2⟩
    have HB2 := Lib.hid (HB.out.trans (hb2.mono HB.out.size))
    have F2 := Lib.hid (Four.keep F.out hb2)
    have hlt2 := F2.out.lt
    obtain ⟨d0, d1, d2, d3, df⟩ := F2.out.cells
    clear hb2 c0 c1 c2 c3 cf
    cases hs : shapeds [y0, y1] with
    | false =>
      have HSS := Lib.hid hs
      clear hs
      go_wp2_with fail
      go_ret
      exact ⟨by rw [HS.out, HSS.out]; rfl, HB2.out⟩
    | true =>
      have HSS := Lib.hid hs
      clear hs
      go_wp2_with fail
      refine (Tryz.strings_HasSuffix (toB op) ⟨#[61]⟩ _ (by omega)).mono ?_
      rintro e w3 ⟨rfl, rfl⟩
      rw [hsf]
      go_wp2_with fail
      refine (rcont_any w3.heap.size 0 4 [[60, 61], [62, 61], [61, 61], [33, 61]] op _ (lit4 w3) (by simp)).mono ?_
      rintro e w4 ⟨rfl, rfl⟩
      rw [hin]
      obtain ⟨g, off, hAe, _, hg, hLx⟩ := HXA.out _ HB2.out (by simp)
      subst hAe
      obtain ⟨v0, v1, v2, v3, p0, p1, p2, p3, hxy⟩ := ex0 hLx
      obtain ⟨n5, A5, k5, c5, nm5, hv, hq5⟩ := hxy.form
      simp only [Value.agg.injEq, Array.mk.injEq, List.cons.injEq, and_true] at hv
      obtain ⟨rfl, rfl, rfl, rfl⟩ := hv
      have HTg := Lib.hid (show target y0 = (y0.op == [101] || y0.op == [118] && isNm nm5) by rw [hq5]; rfl)
      clear hxy hLx hq5
      go_wp2_with fail
      refine (rtarget_any y0.op nm5 n5 A5 k5 c5 _).mono ?_
      rintro e w5 ⟨rfl, hb5⟩
      have HB5 := Lib.hid ((HB2.out.alloc HB2.out.size (.cells #[.string ⟨#[60, 61]⟩, .string ⟨#[62, 61]⟩, .string ⟨#[61, 61]⟩, .string ⟨#[33, 61]⟩] 9)).trans (hb5.mono (HB2.out.alloc HB2.out.size (.cells #[.string ⟨#[60, 61]⟩, .string ⟨#[62, 61]⟩, .string ⟨#[61, 61]⟩, .string ⟨#[33, 61]⟩] 9)).size))
      clear hb5
      go_wp2_with fail
      go_ret
      exact ⟨by rw [HS.out, HSS.out, HTg.out]; rfl, HB5.out⟩
  · have hsf : Lib.hasSuffix (toB op).data.toList (⟨#[61]⟩ : ByteArray).data.toList = true := by rw [toB_data, HOp.out]; rfl
    have hin : decide (op ∈ ([[60, 61], [62, 61], [61, 61], [33, 61]] : List (List UInt8))) = false := by rw [HOp.out]; rfl
    have f0 := cmpB (b := false) HOp.out [110] rfl
    have f1 := cmpB (b := false) HOp.out [118] rfl
    have f2 := cmpB (b := false) HOp.out [101] rfl
    have f3 := cmpB (b := false) HOp.out [117, 45] rfl
    have f4 := cmpB (b := false) HOp.out [117, 43] rfl
    have f5 := cmpB (b := false) HOp.out [33] rfl
    have f6 := cmpB (b := false) HOp.out [126] rfl
    have f7 := cmpB (b := false) HOp.out [43, 43, 118] rfl
    have f8 := cmpB (b := false) HOp.out [45, 45, 118] rfl
    have f9 := cmpB (b := false) HOp.out [118, 43, 43] rfl
    have f10 := cmpB (b := false) HOp.out [118, 45, 45] rfl
    have f11 := cmpB (b := false) HOp.out [63] rfl
    have f12 := cmpB (b := false) HOp.out [42] rfl
    have f13 := cmpB (b := false) HOp.out [47] rfl
    have f14 := cmpB (b := false) HOp.out [37] rfl
    have f15 := cmpB (b := false) HOp.out [43] rfl
    have f16 := cmpB (b := false) HOp.out [45] rfl
    have f17 := cmpB (b := false) HOp.out [60, 60] rfl
    have f18 := cmpB (b := false) HOp.out [62, 62] rfl
    have f19 := cmpB (b := false) HOp.out [60] rfl
    have f20 := cmpB (b := false) HOp.out [60, 61] rfl
    have f21 := cmpB (b := false) HOp.out [62] rfl
    have f22 := cmpB (b := false) HOp.out [62, 61] rfl
    have f23 := cmpB (b := false) HOp.out [61, 61] rfl
    have f24 := cmpB (b := false) HOp.out [33, 61] rfl
    have f25 := cmpB (b := false) HOp.out [38] rfl
    have f26 := cmpB (b := false) HOp.out [94] rfl
    have f27 := cmpB (b := false) HOp.out [124] rfl
    have f28 := cmpB (b := false) HOp.out [38, 38] rfl
    have f29 := cmpB (b := false) HOp.out [124, 124] rfl
    have f30 := cmpB (b := false) HOp.out [44] rfl
    have f31 := cmpB (b := false) HOp.out [61] rfl
    have f32 := cmpB (b := false) HOp.out [42, 61] rfl
    have f33 := cmpB (b := false) HOp.out [47, 61] rfl
    have f34 := cmpB (b := false) HOp.out [37, 61] rfl
    have f35 := cmpB (b := false) HOp.out [43, 61] rfl
    have f36 := cmpB (b := false) HOp.out [45, 61] rfl
    have f37 := cmpB (b := false) HOp.out [60, 60, 61] rfl
    have f38 := cmpB (b := false) HOp.out [62, 62, 61] rfl
    have f39 := cmpB (b := false) HOp.out [38, 61] rfl
    have f40 := cmpB (b := false) HOp.out [94, 61] rfl
    have f41 := cmpB (b := true) HOp.out [124, 61] rfl
    go_enter Tryz.func40, Tryz.ntmps40
    obtain ⟨c0, c1, c2, c3, cf⟩ := F.out.cells
    go_wp2_with fail
    refine (HC.out _ HB.out).mono ?_
    rintro e w2 ⟨rfl, hb2⟩
    have HB2 := Lib.hid (HB.out.trans (hb2.mono HB.out.size))
    have F2 := Lib.hid (Four.keep F.out hb2)
    have hlt2 := F2.out.lt
    obtain ⟨d0, d1, d2, d3, df⟩ := F2.out.cells
    clear hb2 c0 c1 c2 c3 cf
    cases hs : shapeds [y0, y1] with
    | false =>
      have HSS := Lib.hid hs
      clear hs
      go_wp2_with fail
      go_ret
      exact ⟨by rw [HS.out, HSS.out]; rfl, HB2.out⟩
    | true =>
      have HSS := Lib.hid hs
      clear hs
      go_wp2_with fail
      refine (Tryz.strings_HasSuffix (toB op) ⟨#[61]⟩ _ (by omega)).mono ?_
      rintro e w3 ⟨rfl, rfl⟩
      rw [hsf]
      go_wp2_with fail
      refine (rcont_any w3.heap.size 0 4 [[60, 61], [62, 61], [61, 61], [33, 61]] op _ (lit4 w3) (by simp)).mono ?_
      rintro e w4 ⟨rfl, rfl⟩
      rw [hin]
      obtain ⟨g, off, hAe, _, hg, hLx⟩ := HXA.out _ HB2.out (by simp)
      subst hAe
      obtain ⟨v0, v1, v2, v3, p0, p1, p2, p3, hxy⟩ := ex0 hLx
      obtain ⟨n5, A5, k5, c5, nm5, hv, hq5⟩ := hxy.form
      simp only [Value.agg.injEq, Array.mk.injEq, List.cons.injEq, and_true] at hv
      obtain ⟨rfl, rfl, rfl, rfl⟩ := hv
      have HTg := Lib.hid (show target y0 = (y0.op == [101] || y0.op == [118] && isNm nm5) by rw [hq5]; rfl)
      clear hxy hLx hq5
      go_wp2_with fail
      refine (rtarget_any y0.op nm5 n5 A5 k5 c5 _).mono ?_
      rintro e w5 ⟨rfl, hb5⟩
      have HB5 := Lib.hid ((HB2.out.alloc HB2.out.size (.cells #[.string ⟨#[60, 61]⟩, .string ⟨#[62, 61]⟩, .string ⟨#[61, 61]⟩, .string ⟨#[33, 61]⟩] 9)).trans (hb5.mono (HB2.out.alloc HB2.out.size (.cells #[.string ⟨#[60, 61]⟩, .string ⟨#[62, 61]⟩, .string ⟨#[61, 61]⟩, .string ⟨#[33, 61]⟩] 9)).size))
      clear hb5
      go_wp2_with fail
      go_ret
      exact ⟨by rw [HS.out, HSS.out, HTg.out]; rfl, HB5.out⟩

end Go.Proofs.YtiigclkebnmopaaGreatDoor

namespace Go.Proofs.YtiigclkebnmopaaGreatDoor
open Go.RowKit Go.Shelf

set_option maxRecDepth 100000 in
set_option maxHeartbeats 6400000 in
theorem rshape_bin (P : Nat → Prop) (op : List UInt8) (hop : op ∈ ([[42], [47], [37], [43], [45], [60, 60], [62, 62], [60], [62], [38], [94], [124], [38, 38], [124, 124], [44]] : List (List UInt8))) (y0 y1 : Ex) (IH : ∀ y ∈ [y0, y1], RSh P y) : RSh P (.mk op 0 [] [y0, y1]) := by
  intro v w hx
  obtain ⟨A, c, rfl, _, hA⟩ := hx.parts
  have hfc : leafO op = false ∧ arO op = 2 ∧ setsO op = false := by
    have : ∀ op ∈ ([[42], [47], [37], [43], [45], [60, 60], [62, 62], [60], [62], [38], [94], [124], [38, 38], [124, 124], [44]] : List (List UInt8)), leafO op = false ∧ arO op = 2 ∧ setsO op = false := by decide
    exact this op hop
  have HS := Lib.hid (show shaped (.mk op 0 [] [y0, y1]) = shapeds [y0, y1] by
    rw [shaped_node_eq (l := [y0, y1]) hfc.1 hfc.2.1 (by simp), hfc.2.2]
    simp)
  have ba := (Below.refl w.heap.size w).alloc (Nat.le_refl _) (.cells #[.string (toB op), .int .i64 0, .string (toB []), .slice A [y0, y1].length c] 25)
  have HB := Lib.hid ba
  have F := Lib.hid (Four.new w (.string (toB op)) (.int .i64 0) (.string (toB [])) (.slice A [y0, y1].length c))
  have HC := Lib.hid (fun W (hb : Below w.heap.size w W) => rcontains_any P A c [y0, y1] W (hA.below hb) (by simp) IH)
  have hem : (toB []).toList.isEmpty = true := by rw [toB_toList]; rfl
  have hem2 : ((toB []).toList == []) = true := by rw [toB_toList]; rfl
  have hszO : (toB op).size ≤ 1000 := by
    have : ∀ op ∈ ([[42], [47], [37], [43], [45], [60, 60], [62, 62], [60], [62], [38], [94], [124], [38, 38], [124, 124], [44]] : List (List UInt8)), op.length ≤ 3 := by decide
    have := this op hop
    rw [toB_size]
    omega
  obtain ⟨L, hL, hop2⟩ : ∃ L ∈ ([[42], [47], [37], [43], [45], [60, 60], [62, 62], [60], [62], [38], [94], [124], [38, 38], [124, 124], [44]] : List (List UInt8)), op = L := ⟨op, hop, rfl⟩
  have HOp := Lib.hid hop2
  simp only [List.mem_cons, List.not_mem_nil, or_false] at hL
  clear hop hop2 hx IH hA ba hfc
  rcases hL with rfl | rfl | rfl | rfl | rfl | rfl | rfl | rfl | rfl | rfl | rfl | rfl | rfl | rfl | rfl
  · have hsf : Lib.hasSuffix (toB op).data.toList (⟨#[61]⟩ : ByteArray).data.toList = false := by rw [toB_data, HOp.out]; rfl
    have hcv : decide (0 ≤ Lib.indexByte (toB op).data.toList 118) = false := by rw [toB_data, HOp.out]; rfl
    have f0 := cmpB (b := false) HOp.out [110] rfl
    have f1 := cmpB (b := false) HOp.out [118] rfl
    have f2 := cmpB (b := false) HOp.out [101] rfl
    have f3 := cmpB (b := false) HOp.out [117, 45] rfl
    have f4 := cmpB (b := false) HOp.out [117, 43] rfl
    have f5 := cmpB (b := false) HOp.out [33] rfl
    have f6 := cmpB (b := false) HOp.out [126] rfl
    have f7 := cmpB (b := false) HOp.out [43, 43, 118] rfl
    have f8 := cmpB (b := false) HOp.out [45, 45, 118] rfl
    have f9 := cmpB (b := false) HOp.out [118, 43, 43] rfl
    have f10 := cmpB (b := false) HOp.out [118, 45, 45] rfl
    have f11 := cmpB (b := false) HOp.out [63] rfl
    have f12 := cmpB (b := true) HOp.out [42] rfl
    go_enter Tryz.func40, Tryz.ntmps40
    obtain ⟨c0, c1, c2, c3, cf⟩ := F.out.cells
    go_wp2_with fail
    refine (HC.out _ HB.out).mono ?_
    rintro e w2 ⟨rfl, hb2⟩
    have HB2 := Lib.hid (HB.out.trans (hb2.mono HB.out.size))
    have F2 := Lib.hid (Four.keep F.out hb2)
    have hlt2 := F2.out.lt
    obtain ⟨d0, d1, d2, d3, df⟩ := F2.out.cells
    clear hb2 c0 c1 c2 c3 cf
    cases hs : shapeds [y0, y1] with
    | false =>
      have HSS := Lib.hid hs
      clear hs
      go_wp2_with fail
      go_ret
      exact ⟨by rw [HS.out, HSS.out]; rfl, HB2.out⟩
    | true =>
      have HSS := Lib.hid hs
      clear hs
      go_wp2_with fail
      refine (Tryz.strings_HasSuffix (toB op) ⟨#[61]⟩ _ (by omega)).mono ?_
      rintro e w3 ⟨rfl, rfl⟩
      rw [hsf]
      go_wp2_with fail
      refine (Tryz.strings_Contains_one (toB op) 118 _).mono ?_
      rintro e w4 ⟨rfl, rfl⟩
      rw [hcv]
      go_wp2_with fail
      go_ret
      exact ⟨by rw [HS.out, HSS.out]; rfl, HB2.out⟩
  · have hsf : Lib.hasSuffix (toB op).data.toList (⟨#[61]⟩ : ByteArray).data.toList = false := by rw [toB_data, HOp.out]; rfl
    have hcv : decide (0 ≤ Lib.indexByte (toB op).data.toList 118) = false := by rw [toB_data, HOp.out]; rfl
    have f0 := cmpB (b := false) HOp.out [110] rfl
    have f1 := cmpB (b := false) HOp.out [118] rfl
    have f2 := cmpB (b := false) HOp.out [101] rfl
    have f3 := cmpB (b := false) HOp.out [117, 45] rfl
    have f4 := cmpB (b := false) HOp.out [117, 43] rfl
    have f5 := cmpB (b := false) HOp.out [33] rfl
    have f6 := cmpB (b := false) HOp.out [126] rfl
    have f7 := cmpB (b := false) HOp.out [43, 43, 118] rfl
    have f8 := cmpB (b := false) HOp.out [45, 45, 118] rfl
    have f9 := cmpB (b := false) HOp.out [118, 43, 43] rfl
    have f10 := cmpB (b := false) HOp.out [118, 45, 45] rfl
    have f11 := cmpB (b := false) HOp.out [63] rfl
    have f12 := cmpB (b := false) HOp.out [42] rfl
    have f13 := cmpB (b := true) HOp.out [47] rfl
    go_enter Tryz.func40, Tryz.ntmps40
    obtain ⟨c0, c1, c2, c3, cf⟩ := F.out.cells
    go_wp2_with fail
    refine (HC.out _ HB.out).mono ?_
    rintro e w2 ⟨rfl, hb2⟩
    have HB2 := Lib.hid (HB.out.trans (hb2.mono HB.out.size))
    have F2 := Lib.hid (Four.keep F.out hb2)
    have hlt2 := F2.out.lt
    obtain ⟨d0, d1, d2, d3, df⟩ := F2.out.cells
    clear hb2 c0 c1 c2 c3 cf
    cases hs : shapeds [y0, y1] with
    | false =>
      have HSS := Lib.hid hs
      clear hs
      go_wp2_with fail
      go_ret
      exact ⟨by rw [HS.out, HSS.out]; rfl, HB2.out⟩
    | true =>
      have HSS := Lib.hid hs
      clear hs
      go_wp2_with fail
      refine (Tryz.strings_HasSuffix (toB op) ⟨#[61]⟩ _ (by omega)).mono ?_
      rintro e w3 ⟨rfl, rfl⟩
      rw [hsf]
      go_wp2_with fail
      refine (Tryz.strings_Contains_one (toB op) 118 _).mono ?_
      rintro e w4 ⟨rfl, rfl⟩
      rw [hcv]
      go_wp2_with fail
      go_ret
      exact ⟨by rw [HS.out, HSS.out]; rfl, HB2.out⟩
  · have hsf : Lib.hasSuffix (toB op).data.toList (⟨#[61]⟩ : ByteArray).data.toList = false := by rw [toB_data, HOp.out]; rfl
    have hcv : decide (0 ≤ Lib.indexByte (toB op).data.toList 118) = false := by rw [toB_data, HOp.out]; rfl
    have f0 := cmpB (b := false) HOp.out [110] rfl
    have f1 := cmpB (b := false) HOp.out [118] rfl
    have f2 := cmpB (b := false) HOp.out [101] rfl
    have f3 := cmpB (b := false) HOp.out [117, 45] rfl
    have f4 := cmpB (b := false) HOp.out [117, 43] rfl
    have f5 := cmpB (b := false) HOp.out [33] rfl
    have f6 := cmpB (b := false) HOp.out [126] rfl
    have f7 := cmpB (b := false) HOp.out [43, 43, 118] rfl
    have f8 := cmpB (b := false) HOp.out [45, 45, 118] rfl
    have f9 := cmpB (b := false) HOp.out [118, 43, 43] rfl
    have f10 := cmpB (b := false) HOp.out [118, 45, 45] rfl
    have f11 := cmpB (b := false) HOp.out [63] rfl
    have f12 := cmpB (b := false) HOp.out [42] rfl
    have f13 := cmpB (b := false) HOp.out [47] rfl
    have f14 := cmpB (b := true) HOp.out [37] rfl
    go_enter Tryz.func40, Tryz.ntmps40
    obtain ⟨c0, c1, c2, c3, cf⟩ := F.out.cells
    go_wp2_with fail
    refine (HC.out _ HB.out).mono ?_
    rintro e w2 ⟨rfl, hb2⟩
    have HB2 := Lib.hid (HB.out.trans (hb2.mono HB.out.size))
    have F2 := Lib.hid (Four.keep F.out hb2)
    have hlt2 := F2.out.lt
    obtain ⟨d0, d1, d2, d3, df⟩ := F2.out.cells
    clear hb2 c0 c1 c2 c3 cf
    cases hs : shapeds [y0, y1] with
    | false =>
      have HSS := Lib.hid hs
      clear hs
      go_wp2_with fail
      go_ret
      exact ⟨by rw [HS.out, HSS.out]; rfl, HB2.out⟩
    | true =>
      have HSS := Lib.hid hs
      clear hs
      go_wp2_with fail
      refine (Tryz.strings_HasSuffix (toB op) ⟨#[61]⟩ _ (by omega)).mono ?_
      rintro e w3 ⟨rfl, rfl⟩
      rw [hsf]
      go_wp2_with fail
      refine (Tryz.strings_Contains_one (toB op) 118 _).mono ?_
      rintro e w4 ⟨rfl, rfl⟩
      rw [hcv]
      go_wp2_with fail
      go_ret
      exact ⟨by rw [HS.out, HSS.out]; rfl, HB2.out⟩
  · have hsf : Lib.hasSuffix (toB op).data.toList (⟨#[61]⟩ : ByteArray).data.toList = false := by rw [toB_data, HOp.out]; rfl
    have hcv : decide (0 ≤ Lib.indexByte (toB op).data.toList 118) = false := by rw [toB_data, HOp.out]; rfl
    have f0 := cmpB (b := false) HOp.out [110] rfl
    have f1 := cmpB (b := false) HOp.out [118] rfl
    have f2 := cmpB (b := false) HOp.out [101] rfl
    have f3 := cmpB (b := false) HOp.out [117, 45] rfl
    have f4 := cmpB (b := false) HOp.out [117, 43] rfl
    have f5 := cmpB (b := false) HOp.out [33] rfl
    have f6 := cmpB (b := false) HOp.out [126] rfl
    have f7 := cmpB (b := false) HOp.out [43, 43, 118] rfl
    have f8 := cmpB (b := false) HOp.out [45, 45, 118] rfl
    have f9 := cmpB (b := false) HOp.out [118, 43, 43] rfl
    have f10 := cmpB (b := false) HOp.out [118, 45, 45] rfl
    have f11 := cmpB (b := false) HOp.out [63] rfl
    have f12 := cmpB (b := false) HOp.out [42] rfl
    have f13 := cmpB (b := false) HOp.out [47] rfl
    have f14 := cmpB (b := false) HOp.out [37] rfl
    have f15 := cmpB (b := true) HOp.out [43] rfl
    go_enter Tryz.func40, Tryz.ntmps40
    obtain ⟨c0, c1, c2, c3, cf⟩ := F.out.cells
    go_wp2_with fail
    refine (HC.out _ HB.out).mono ?_
    rintro e w2 ⟨rfl, hb2⟩
    have HB2 := Lib.hid (HB.out.trans (hb2.mono HB.out.size))
    have F2 := Lib.hid (Four.keep F.out hb2)
    have hlt2 := F2.out.lt
    obtain ⟨d0, d1, d2, d3, df⟩ := F2.out.cells
    clear hb2 c0 c1 c2 c3 cf
    cases hs : shapeds [y0, y1] with
    | false =>
      have HSS := Lib.hid hs
      clear hs
      go_wp2_with fail
      go_ret
      exact ⟨by rw [HS.out, HSS.out]; rfl, HB2.out⟩
    | true =>
      have HSS := Lib.hid hs
      clear hs
      go_wp2_with fail
      refine (Tryz.strings_HasSuffix (toB op) ⟨#[61]⟩ _ (by omega)).mono ?_
      rintro e w3 ⟨rfl, rfl⟩
      rw [hsf]
      go_wp2_with fail
      refine (Tryz.strings_Contains_one (toB op) 118 _).mono ?_
      rintro e w4 ⟨rfl, rfl⟩
      rw [hcv]
      go_wp2_with fail
      go_ret
      exact ⟨by rw [HS.out, HSS.out]; rfl, HB2.out⟩
  · have hsf : Lib.hasSuffix (toB op).data.toList (⟨#[61]⟩ : ByteArray).data.toList = false := by rw [toB_data, HOp.out]; rfl
    have hcv : decide (0 ≤ Lib.indexByte (toB op).data.toList 118) = false := by rw [toB_data, HOp.out]; rfl
    have f0 := cmpB (b := false) HOp.out [110] rfl
    have f1 := cmpB (b := false) HOp.out [118] rfl
    have f2 := cmpB (b := false) HOp.out [101] rfl
    have f3 := cmpB (b := false) HOp.out [117, 45] rfl
    have f4 := cmpB (b := false) HOp.out [117, 43] rfl
    have f5 := cmpB (b := false) HOp.out [33] rfl
    have f6 := cmpB (b := false) HOp.out [126] rfl
    have f7 := cmpB (b := false) HOp.out [43, 43, 118] rfl
    have f8 := cmpB (b := false) HOp.out [45, 45, 118] rfl
    have f9 := cmpB (b := false) HOp.out [118, 43, 43] rfl
    have f10 := cmpB (b := false) HOp.out [118, 45, 45] rfl
    have f11 := cmpB (b := false) HOp.out [63] rfl
    have f12 := cmpB (b := false) HOp.out [42] rfl
    have f13 := cmpB (b := false) HOp.out [47] rfl
    have f14 := cmpB (b := false) HOp.out [37] rfl
    have f15 := cmpB (b := false) HOp.out [43] rfl
    have f16 := cmpB (b := true) HOp.out [45] rfl
    go_enter Tryz.func40, Tryz.ntmps40
    obtain ⟨c0, c1, c2, c3, cf⟩ := F.out.cells
    go_wp2_with fail
    refine (HC.out _ HB.out).mono ?_
    rintro e w2 ⟨rfl, hb2⟩
    have HB2 := Lib.hid (HB.out.trans (hb2.mono HB.out.size))
    have F2 := Lib.hid (Four.keep F.out hb2)
    have hlt2 := F2.out.lt
    obtain ⟨d0, d1, d2, d3, df⟩ := F2.out.cells
    clear hb2 c0 c1 c2 c3 cf
    cases hs : shapeds [y0, y1] with
    | false =>
      have HSS := Lib.hid hs
      clear hs
      go_wp2_with fail
      go_ret
      exact ⟨by rw [HS.out, HSS.out]; rfl, HB2.out⟩
    | true =>
      have HSS := Lib.hid hs
      clear hs
      go_wp2_with fail
      refine (Tryz.strings_HasSuffix (toB op) ⟨#[61]⟩ _ (by omega)).mono ?_
      rintro e w3 ⟨rfl, rfl⟩
      rw [hsf]
      go_wp2_with fail
      refine (Tryz.strings_Contains_one (toB op) 118 _).mono ?_
      rintro e w4 ⟨rfl, rfl⟩
      rw [hcv]
      go_wp2_with fail
      go_ret
      exact ⟨by rw [HS.out, HSS.out]; rfl, HB2.out⟩
  · have hsf : Lib.hasSuffix (toB op).data.toList (⟨#[61]⟩ : ByteArray).data.toList = false := by rw [toB_data, HOp.out]; rfl
    have hcv : decide (0 ≤ Lib.indexByte (toB op).data.toList 118) = false := by rw [toB_data, HOp.out]; rfl
    have f0 := cmpB (b := false) HOp.out [110] rfl
    have f1 := cmpB (b := false) HOp.out [118] rfl
    have f2 := cmpB (b := false) HOp.out [101] rfl
    have f3 := cmpB (b := false) HOp.out [117, 45] rfl
    have f4 := cmpB (b := false) HOp.out [117, 43] rfl
    have f5 := cmpB (b := false) HOp.out [33] rfl
    have f6 := cmpB (b := false) HOp.out [126] rfl
    have f7 := cmpB (b := false) HOp.out [43, 43, 118] rfl
    have f8 := cmpB (b := false) HOp.out [45, 45, 118] rfl
    have f9 := cmpB (b := false) HOp.out [118, 43, 43] rfl
    have f10 := cmpB (b := false) HOp.out [118, 45, 45] rfl
    have f11 := cmpB (b := false) HOp.out [63] rfl
    have f12 := cmpB (b := false) HOp.out [42] rfl
    have f13 := cmpB (b := false) HOp.out [47] rfl
    have f14 := cmpB (b := false) HOp.out [37] rfl
    have f15 := cmpB (b := false) HOp.out [43] rfl
    have f16 := cmpB (b := false) HOp.out [45] rfl
    have f17 := cmpB (b := true) HOp.out [60, 60] rfl
    go_enter Tryz.func40, Tryz.ntmps40
    obtain ⟨c0, c1, c2, c3, cf⟩ := F.out.cells
    go_wp2_with fail
    refine (HC.out _ HB.out).mono ?_
    rintro e w2 ⟨rfl, hb2⟩
    have HB2 := Lib.hid (HB.out.trans (hb2.mono HB.out.size))
    have F2 := Lib.hid (Four.keep F.out hb2)
    have hlt2 := F2.out.lt
    obtain ⟨d0, d1, d2, d3, df⟩ := F2.out.cells
    clear hb2 c0 c1 c2 c3 cf
    cases hs : shapeds [y0, y1] with
    | false =>
      have HSS := Lib.hid hs
      clear hs
      go_wp2_with fail
      go_ret
      exact ⟨by rw [HS.out, HSS.out]; rfl, HB2.out⟩
    | true =>
      have HSS := Lib.hid hs
      clear hs
      go_wp2_with fail
      refine (Tryz.strings_HasSuffix (toB op) ⟨#[61]⟩ _ (by omega)).mono ?_
      rintro e w3 ⟨rfl, rfl⟩
      rw [hsf]
      go_wp2_with fail
      refine (Tryz.strings_Contains_one (toB op) 118 _).mono ?_
      rintro e w4 ⟨rfl, rfl⟩
      rw [hcv]
      go_wp2_with fail
      go_ret
      exact ⟨by rw [HS.out, HSS.out]; rfl, HB2.out⟩
  · have hsf : Lib.hasSuffix (toB op).data.toList (⟨#[61]⟩ : ByteArray).data.toList = false := by rw [toB_data, HOp.out]; rfl
    have hcv : decide (0 ≤ Lib.indexByte (toB op).data.toList 118) = false := by rw [toB_data, HOp.out]; rfl
    have f0 := cmpB (b := false) HOp.out [110] rfl
    have f1 := cmpB (b := false) HOp.out [118] rfl
    have f2 := cmpB (b := false) HOp.out [101] rfl
    have f3 := cmpB (b := false) HOp.out [117, 45] rfl
    have f4 := cmpB (b := false) HOp.out [117, 43] rfl
    have f5 := cmpB (b := false) HOp.out [33] rfl
    have f6 := cmpB (b := false) HOp.out [126] rfl
    have f7 := cmpB (b := false) HOp.out [43, 43, 118] rfl
    have f8 := cmpB (b := false) HOp.out [45, 45, 118] rfl
    have f9 := cmpB (b := false) HOp.out [118, 43, 43] rfl
    have f10 := cmpB (b := false) HOp.out [118, 45, 45] rfl
    have f11 := cmpB (b := false) HOp.out [63] rfl
    have f12 := cmpB (b := false) HOp.out [42] rfl
    have f13 := cmpB (b := false) HOp.out [47] rfl
    have f14 := cmpB (b := false) HOp.out [37] rfl
    have f15 := cmpB (b := false) HOp.out [43] rfl
    have f16 := cmpB (b := false) HOp.out [45] rfl
    have f17 := cmpB (b := false) HOp.out [60, 60] rfl
    have f18 := cmpB (b := true) HOp.out [62, 62] rfl
    go_enter Tryz.func40, Tryz.ntmps40
    obtain ⟨c0, c1, c2, c3, cf⟩ := F.out.cells
    go_wp2_with fail
    refine (HC.out _ HB.out).mono ?_
    rintro e w2 ⟨rfl, hb2⟩
    have HB2 := Lib.hid (HB.out.trans (hb2.mono HB.out.size))
    have F2 := Lib.hid (Four.keep F.out hb2)
    have hlt2 := F2.out.lt
    obtain ⟨d0, d1, d2, d3, df⟩ := F2.out.cells
    clear hb2 c0 c1 c2 c3 cf
    cases hs : shapeds [y0, y1] with
    | false =>
      have HSS := Lib.hid hs
      clear hs
      go_wp2_with fail
      go_ret
      exact ⟨by rw [HS.out, HSS.out]; rfl, HB2.out⟩
    | true =>
      have HSS := Lib.hid hs
      clear hs
      go_wp2_with fail
      refine (Tryz.strings_HasSuffix (toB op) ⟨#[61]⟩ _ (by omega)).mono ?_
      rintro e w3 ⟨rfl, rfl⟩
      rw [hsf]
      go_wp2_with fail
      refine (Tryz.strings_Contains_one (toB op) 118 _).mono ?_
      rintro e w4 ⟨rfl, rfl⟩
      rw [hcv]
      go_wp2_with fail
      go_ret
      exact ⟨by rw [HS.out, HSS.out]; rfl, HB2.out⟩
  · have hsf : Lib.hasSuffix (toB op).data.toList (⟨#[61]⟩ : ByteArray).data.toList = false := by rw [toB_data, HOp.out]; rfl
    have hcv : decide (0 ≤ Lib.indexByte (toB op).data.toList 118) = false := by rw [toB_data, HOp.out]; rfl
    have f0 := cmpB (b := false) HOp.out [110] rfl
    have f1 := cmpB (b := false) HOp.out [118] rfl
    have f2 := cmpB (b := false) HOp.out [101] rfl
    have f3 := cmpB (b := false) HOp.out [117, 45] rfl
    have f4 := cmpB (b := false) HOp.out [117, 43] rfl
    have f5 := cmpB (b := false) HOp.out [33] rfl
    have f6 := cmpB (b := false) HOp.out [126] rfl
    have f7 := cmpB (b := false) HOp.out [43, 43, 118] rfl
    have f8 := cmpB (b := false) HOp.out [45, 45, 118] rfl
    have f9 := cmpB (b := false) HOp.out [118, 43, 43] rfl
    have f10 := cmpB (b := false) HOp.out [118, 45, 45] rfl
    have f11 := cmpB (b := false) HOp.out [63] rfl
    have f12 := cmpB (b := false) HOp.out [42] rfl
    have f13 := cmpB (b := false) HOp.out [47] rfl
    have f14 := cmpB (b := false) HOp.out [37] rfl
    have f15 := cmpB (b := false) HOp.out [43] rfl
    have f16 := cmpB (b := false) HOp.out [45] rfl
    have f17 := cmpB (b := false) HOp.out [60, 60] rfl
    have f18 := cmpB (b := false) HOp.out [62, 62] rfl
    have f19 := cmpB (b := true) HOp.out [60] rfl
    go_enter Tryz.func40, Tryz.ntmps40
    obtain ⟨c0, c1, c2, c3, cf⟩ := F.out.cells
    go_wp2_with fail
    refine (HC.out _ HB.out).mono ?_
    rintro e w2 ⟨rfl, hb2⟩
    have HB2 := Lib.hid (HB.out.trans (hb2.mono HB.out.size))
    have F2 := Lib.hid (Four.keep F.out hb2)
    have hlt2 := F2.out.lt
    obtain ⟨d0, d1, d2, d3, df⟩ := F2.out.cells
    clear hb2 c0 c1 c2 c3 cf
    cases hs : shapeds [y0, y1] with
    | false =>
      have HSS := Lib.hid hs
      clear hs
      go_wp2_with fail
      go_ret
      exact ⟨by rw [HS.out, HSS.out]; rfl, HB2.out⟩
    | true =>
      have HSS := Lib.hid hs
      clear hs
      go_wp2_with fail
      refine (Tryz.strings_HasSuffix (toB op) ⟨#[61]⟩ _ (by omega)).mono ?_
      rintro e w3 ⟨rfl, rfl⟩
      rw [hsf]
      go_wp2_with fail
      refine (Tryz.strings_Contains_one (toB op) 118 _).mono ?_
      rintro e w4 ⟨rfl, rfl⟩
      rw [hcv]
      go_wp2_with fail
      go_ret
      exact ⟨by rw [HS.out, HSS.out]; rfl, HB2.out⟩
  · have hsf : Lib.hasSuffix (toB op).data.toList (⟨#[61]⟩ : ByteArray).data.toList = false := by rw [toB_data, HOp.out]; rfl
    have hcv : decide (0 ≤ Lib.indexByte (toB op).data.toList 118) = false := by rw [toB_data, HOp.out]; rfl
    have f0 := cmpB (b := false) HOp.out [110] rfl
    have f1 := cmpB (b := false) HOp.out [118] rfl
    have f2 := cmpB (b := false) HOp.out [101] rfl
    have f3 := cmpB (b := false) HOp.out [117, 45] rfl
    have f4 := cmpB (b := false) HOp.out [117, 43] rfl
    have f5 := cmpB (b := false) HOp.out [33] rfl
    have f6 := cmpB (b := false) HOp.out [126] rfl
    have f7 := cmpB (b := false) HOp.out [43, 43, 118] rfl
    have f8 := cmpB (b := false) HOp.out [45, 45, 118] rfl
    have f9 := cmpB (b := false) HOp.out [118, 43, 43] rfl
    have f10 := cmpB (b := false) HOp.out [118, 45, 45] rfl
    have f11 := cmpB (b := false) HOp.out [63] rfl
    have f12 := cmpB (b := false) HOp.out [42] rfl
    have f13 := cmpB (b := false) HOp.out [47] rfl
    have f14 := cmpB (b := false) HOp.out [37] rfl
    have f15 := cmpB (b := false) HOp.out [43] rfl
    have f16 := cmpB (b := false) HOp.out [45] rfl
    have f17 := cmpB (b := false) HOp.out [60, 60] rfl
    have f18 := cmpB (b := false) HOp.out [62, 62] rfl
    have f19 := cmpB (b := false) HOp.out [60] rfl
    have f20 := cmpB (b := false) HOp.out [60, 61] rfl
    have f21 := cmpB (b := true) HOp.out [62] rfl
    go_enter Tryz.func40, Tryz.ntmps40
    obtain ⟨c0, c1, c2, c3, cf⟩ := F.out.cells
    go_wp2_with fail
    refine (HC.out _ HB.out).mono ?_
    rintro e w2 ⟨rfl, hb2⟩
    have HB2 := Lib.hid (HB.out.trans (hb2.mono HB.out.size))
    have F2 := Lib.hid (Four.keep F.out hb2)
    have hlt2 := F2.out.lt
    obtain ⟨d0, d1, d2, d3, df⟩ := F2.out.cells
    clear hb2 c0 c1 c2 c3 cf
    cases hs : shapeds [y0, y1] with
    | false =>
      have HSS := Lib.hid hs
      clear hs
      go_wp2_with fail
      go_ret
      exact ⟨by rw [HS.out, HSS.out]; rfl, HB2.out⟩
    | true =>
      have HSS := Lib.hid hs
      clear hs
      go_wp2_with fail
      refine (Tryz.strings_HasSuffix (toB op) ⟨#[61]⟩ _ (by omega)).mono ?_
      rintro e w3 ⟨rfl, rfl⟩
      rw [hsf]
      go_wp2_with fail
      refine (Tryz.strings_Contains_one (toB op) 118 _).mono ?_
      rintro e w4 ⟨rfl, rfl⟩
      rw [hcv]
      go_wp2_with fail
      go_ret
      exact ⟨by rw [HS.out, HSS.out]; rfl, HB2.out⟩
  · have hsf : Lib.hasSuffix (toB op).data.toList (⟨#[61]⟩ : ByteArray).data.toList = false := by rw [toB_data, HOp.out]; rfl
    have hcv : decide (0 ≤ Lib.indexByte (toB op).data.toList 118) = false := by rw [toB_data, HOp.out]; rfl
    have f0 := cmpB (b := false) HOp.out [110] rfl
    have f1 := cmpB (b := false) HOp.out [118] rfl
    have f2 := cmpB (b := false) HOp.out [101] rfl
    have f3 := cmpB (b := false) HOp.out [117, 45] rfl
    have f4 := cmpB (b := false) HOp.out [117, 43] rfl
    have f5 := cmpB (b := false) HOp.out [33] rfl
    have f6 := cmpB (b := false) HOp.out [126] rfl
    have f7 := cmpB (b := false) HOp.out [43, 43, 118] rfl
    have f8 := cmpB (b := false) HOp.out [45, 45, 118] rfl
    have f9 := cmpB (b := false) HOp.out [118, 43, 43] rfl
    have f10 := cmpB (b := false) HOp.out [118, 45, 45] rfl
    have f11 := cmpB (b := false) HOp.out [63] rfl
    have f12 := cmpB (b := false) HOp.out [42] rfl
    have f13 := cmpB (b := false) HOp.out [47] rfl
    have f14 := cmpB (b := false) HOp.out [37] rfl
    have f15 := cmpB (b := false) HOp.out [43] rfl
    have f16 := cmpB (b := false) HOp.out [45] rfl
    have f17 := cmpB (b := false) HOp.out [60, 60] rfl
    have f18 := cmpB (b := false) HOp.out [62, 62] rfl
    have f19 := cmpB (b := false) HOp.out [60] rfl
    have f20 := cmpB (b := false) HOp.out [60, 61] rfl
    have f21 := cmpB (b := false) HOp.out [62] rfl
    have f22 := cmpB (b := false) HOp.out [62, 61] rfl
    have f23 := cmpB (b := false) HOp.out [61, 61] rfl
    have f24 := cmpB (b := false) HOp.out [33, 61] rfl
    have f25 := cmpB (b := true) HOp.out [38] rfl
    go_enter Tryz.func40, Tryz.ntmps40
    obtain ⟨c0, c1, c2, c3, cf⟩ := F.out.cells
    go_wp2_with fail
    refine (HC.out _ HB.out).mono ?_
    rintro e w2 ⟨rfl, hb2⟩
    have HB2 := Lib.hid (HB.out.trans (hb2.mono HB.out.size))
    have F2 := Lib.hid (Four.keep F.out hb2)
    have hlt2 := F2.out.lt
    obtain ⟨d0, d1, d2, d3, df⟩ := F2.out.cells
    clear hb2 c0 c1 c2 c3 cf
    cases hs : shapeds [y0, y1] with
    | false =>
      have HSS := Lib.hid hs
      clear hs
      go_wp2_with fail
      go_ret
      exact ⟨by rw [HS.out, HSS.out]; rfl, HB2.out⟩
    | true =>
      have HSS := Lib.hid hs
      clear hs
      go_wp2_with fail
      refine (Tryz.strings_HasSuffix (toB op) ⟨#[61]⟩ _ (by omega)).mono ?_
      rintro e w3 ⟨rfl, rfl⟩
      rw [hsf]
      go_wp2_with fail
      refine (Tryz.strings_Contains_one (toB op) 118 _).mono ?_
      rintro e w4 ⟨rfl, rfl⟩
      rw [hcv]
      go_wp2_with fail
      go_ret
      exact ⟨by rw [HS.out, HSS.out]; rfl, HB2.out⟩
  · have hsf : Lib.hasSuffix (toB op).data.toList (⟨#[61]⟩ : ByteArray).data.toList = false := by rw [toB_data, HOp.out]; rfl
    have hcv : decide (0 ≤ Lib.indexByte (toB op).data.toList 118) = false := by rw [toB_data, HOp.out]; rfl
    have f0 := cmpB (b := false) HOp.out [110] rfl
    have f1 := cmpB (b := false) HOp.out [118] rfl
    have f2 := cmpB (b := false) HOp.out [101] rfl
    have f3 := cmpB (b := false) HOp.out [117, 45] rfl
    have f4 := cmpB (b := false) HOp.out [117, 43] rfl
    have f5 := cmpB (b := false) HOp.out [33] rfl
    have f6 := cmpB (b := false) HOp.out [126] rfl
    have f7 := cmpB (b := false) HOp.out [43, 43, 118] rfl
    have f8 := cmpB (b := false) HOp.out [45, 45, 118] rfl
    have f9 := cmpB (b := false) HOp.out [118, 43, 43] rfl
    have f10 := cmpB (b := false) HOp.out [118, 45, 45] rfl
    have f11 := cmpB (b := false) HOp.out [63] rfl
    have f12 := cmpB (b := false) HOp.out [42] rfl
    have f13 := cmpB (b := false) HOp.out [47] rfl
    have f14 := cmpB (b := false) HOp.out [37] rfl
    have f15 := cmpB (b := false) HOp.out [43] rfl
    have f16 := cmpB (b := false) HOp.out [45] rfl
    have f17 := cmpB (b := false) HOp.out [60, 60] rfl
    have f18 := cmpB (b := false) HOp.out [62, 62] rfl
    have f19 := cmpB (b := false) HOp.out [60] rfl
    have f20 := cmpB (b := false) HOp.out [60, 61] rfl
    have f21 := cmpB (b := false) HOp.out [62] rfl
    have f22 := cmpB (b := false) HOp.out [62, 61] rfl
    have f23 := cmpB (b := false) HOp.out [61, 61] rfl
    have f24 := cmpB (b := false) HOp.out [33, 61] rfl
    have f25 := cmpB (b := false) HOp.out [38] rfl
    have f26 := cmpB (b := true) HOp.out [94] rfl
    go_enter Tryz.func40, Tryz.ntmps40
    obtain ⟨c0, c1, c2, c3, cf⟩ := F.out.cells
    go_wp2_with fail
    refine (HC.out _ HB.out).mono ?_
    rintro e w2 ⟨rfl, hb2⟩
    have HB2 := Lib.hid (HB.out.trans (hb2.mono HB.out.size))
    have F2 := Lib.hid (Four.keep F.out hb2)
    have hlt2 := F2.out.lt
    obtain ⟨d0, d1, d2, d3, df⟩ := F2.out.cells
    clear hb2 c0 c1 c2 c3 cf
    cases hs : shapeds [y0, y1] with
    | false =>
      have HSS := Lib.hid hs
      clear hs
      go_wp2_with fail
      go_ret
      exact ⟨by rw [HS.out, HSS.out]; rfl, HB2.out⟩
    | true =>
      have HSS := Lib.hid hs
      clear hs
      go_wp2_with fail
      refine (Tryz.strings_HasSuffix (toB op) ⟨#[61]⟩ _ (by omega)).mono ?_
      rintro e w3 ⟨rfl, rfl⟩
      rw [hsf]
      go_wp2_with fail
      refine (Tryz.strings_Contains_one (toB op) 118 _).mono ?_
      rintro e w4 ⟨rfl, rfl⟩
      rw [hcv]
      go_wp2_with fail
      go_ret
      exact ⟨by rw [HS.out, HSS.out]; rfl, HB2.out⟩
  · have hsf : Lib.hasSuffix (toB op).data.toList (⟨#[61]⟩ : ByteArray).data.toList = false := by rw [toB_data, HOp.out]; rfl
    have hcv : decide (0 ≤ Lib.indexByte (toB op).data.toList 118) = false := by rw [toB_data, HOp.out]; rfl
    have f0 := cmpB (b := false) HOp.out [110] rfl
    have f1 := cmpB (b := false) HOp.out [118] rfl
    have f2 := cmpB (b := false) HOp.out [101] rfl
    have f3 := cmpB (b := false) HOp.out [117, 45] rfl
    have f4 := cmpB (b := false) HOp.out [117, 43] rfl
    have f5 := cmpB (b := false) HOp.out [33] rfl
    have f6 := cmpB (b := false) HOp.out [126] rfl
    have f7 := cmpB (b := false) HOp.out [43, 43, 118] rfl
    have f8 := cmpB (b := false) HOp.out [45, 45, 118] rfl
    have f9 := cmpB (b := false) HOp.out [118, 43, 43] rfl
    have f10 := cmpB (b := false) HOp.out [118, 45, 45] rfl
    have f11 := cmpB (b := false) HOp.out [63] rfl
    have f12 := cmpB (b := false) HOp.out [42] rfl
    have f13 := cmpB (b := false) HOp.out [47] rfl
    have f14 := cmpB (b := false) HOp.out [37] rfl
    have f15 := cmpB (b := false) HOp.out [43] rfl
    have f16 := cmpB (b := false) HOp.out [45] rfl
    have f17 := cmpB (b := false) HOp.out [60, 60] rfl
    have f18 := cmpB (b := false) HOp.out [62, 62] rfl
    have f19 := cmpB (b := false) HOp.out [60] rfl
    have f20 := cmpB (b := false) HOp.out [60, 61] rfl
    have f21 := cmpB (b := false) HOp.out [62] rfl
    have f22 := cmpB (b := false) HOp.out [62, 61] rfl
    have f23 := cmpB (b := false) HOp.out [61, 61] rfl
    have f24 := cmpB (b := false) HOp.out [33, 61] rfl
    have f25 := cmpB (b := false) HOp.out [38] rfl
    have f26 := cmpB (b := false) HOp.out [94] rfl
    have f27 := cmpB (b := true) HOp.out [124] rfl
    go_enter Tryz.func40, Tryz.ntmps40
    obtain ⟨c0, c1, c2, c3, cf⟩ := F.out.cells
    go_wp2_with fail
    refine (HC.out _ HB.out).mono ?_
    rintro e w2 ⟨rfl, hb2⟩
    have HB2 := Lib.hid (HB.out.trans (hb2.mono HB.out.size))
    have F2 := Lib.hid (Four.keep F.out hb2)
    have hlt2 := F2.out.lt
    obtain ⟨d0, d1, d2, d3, df⟩ := F2.out.cells
    clear hb2 c0 c1 c2 c3 cf
    cases hs : shapeds [y0, y1] with
    | false =>
      have HSS := Lib.hid hs
      clear hs
      go_wp2_with fail
      go_ret
      exact ⟨by rw [HS.out, HSS.out]; rfl, HB2.out⟩
    | true =>
      have HSS := Lib.hid hs
      clear hs
      go_wp2_with fail
      refine (Tryz.strings_HasSuffix (toB op) ⟨#[61]⟩ _ (by omega)).mono ?_
      rintro e w3 ⟨rfl, rfl⟩
      rw [hsf]
      go_wp2_with fail
      refine (Tryz.strings_Contains_one (toB op) 118 _).mono ?_
      rintro e w4 ⟨rfl, rfl⟩
      rw [hcv]
      go_wp2_with fail
      go_ret
      exact ⟨by rw [HS.out, HSS.out]; rfl, HB2.out⟩
  · have hsf : Lib.hasSuffix (toB op).data.toList (⟨#[61]⟩ : ByteArray).data.toList = false := by rw [toB_data, HOp.out]; rfl
    have hcv : decide (0 ≤ Lib.indexByte (toB op).data.toList 118) = false := by rw [toB_data, HOp.out]; rfl
    have f0 := cmpB (b := false) HOp.out [110] rfl
    have f1 := cmpB (b := false) HOp.out [118] rfl
    have f2 := cmpB (b := false) HOp.out [101] rfl
    have f3 := cmpB (b := false) HOp.out [117, 45] rfl
    have f4 := cmpB (b := false) HOp.out [117, 43] rfl
    have f5 := cmpB (b := false) HOp.out [33] rfl
    have f6 := cmpB (b := false) HOp.out [126] rfl
    have f7 := cmpB (b := false) HOp.out [43, 43, 118] rfl
    have f8 := cmpB (b := false) HOp.out [45, 45, 118] rfl
    have f9 := cmpB (b := false) HOp.out [118, 43, 43] rfl
    have f10 := cmpB (b := false) HOp.out [118, 45, 45] rfl
    have f11 := cmpB (b := false) HOp.out [63] rfl
    have f12 := cmpB (b := false) HOp.out [42] rfl
    have f13 := cmpB (b := false) HOp.out [47] rfl
    have f14 := cmpB (b := false) HOp.out [37] rfl
    have f15 := cmpB (b := false) HOp.out [43] rfl
    have f16 := cmpB (b := false) HOp.out [45] rfl
    have f17 := cmpB (b := false) HOp.out [60, 60] rfl
    have f18 := cmpB (b := false) HOp.out [62, 62] rfl
    have f19 := cmpB (b := false) HOp.out [60] rfl
    have f20 := cmpB (b := false) HOp.out [60, 61] rfl
    have f21 := cmpB (b := false) HOp.out [62] rfl
    have f22 := cmpB (b := false) HOp.out [62, 61] rfl
    have f23 := cmpB (b := false) HOp.out [61, 61] rfl
    have f24 := cmpB (b := false) HOp.out [33, 61] rfl
    have f25 := cmpB (b := false) HOp.out [38] rfl
    have f26 := cmpB (b := false) HOp.out [94] rfl
    have f27 := cmpB (b := false) HOp.out [124] rfl
    have f28 := cmpB (b := true) HOp.out [38, 38] rfl
    go_enter Tryz.func40, Tryz.ntmps40
    obtain ⟨c0, c1, c2, c3, cf⟩ := F.out.cells
    go_wp2_with fail
    refine (HC.out _ HB.out).mono ?_
    rintro e w2 ⟨rfl, hb2⟩
    have HB2 := Lib.hid (HB.out.trans (hb2.mono HB.out.size))
    have F2 := Lib.hid (Four.keep F.out hb2)
    have hlt2 := F2.out.lt
    obtain ⟨d0, d1, d2, d3, df⟩ := F2.out.cells
    clear hb2 c0 c1 c2 c3 cf
    cases hs : shapeds [y0, y1] with
    | false =>
      have HSS := Lib.hid hs
      clear hs
      go_wp2_with fail
      go_ret
      exact ⟨by rw [HS.out, HSS.out]; rfl, HB2.out⟩
    | true =>
      have HSS := Lib.hid hs
      clear hs
      go_wp2_with fail
      refine (Tryz.strings_HasSuffix (toB op) ⟨#[61]⟩ _ (by omega)).mono ?_
      rintro e w3 ⟨rfl, rfl⟩
      rw [hsf]
      go_wp2_with fail
      refine (Tryz.strings_Contains_one (toB op) 118 _).mono ?_
      rintro e w4 ⟨rfl, rfl⟩
      rw [hcv]
      go_wp2_with fail
      go_ret
      exact ⟨by rw [HS.out, HSS.out]; rfl, HB2.out⟩
  · have hsf : Lib.hasSuffix (toB op).data.toList (⟨#[61]⟩ : ByteArray).data.toList = false := by rw [toB_data, HOp.out]; rfl
    have hcv : decide (0 ≤ Lib.indexByte (toB op).data.toList 118) = false := by rw [toB_data, HOp.out]; rfl
    have f0 := cmpB (b := false) HOp.out [110] rfl
    have f1 := cmpB (b := false) HOp.out [118] rfl
    have f2 := cmpB (b := false) HOp.out [101] rfl
    have f3 := cmpB (b := false) HOp.out [117, 45] rfl
    have f4 := cmpB (b := false) HOp.out [117, 43] rfl
    have f5 := cmpB (b := false) HOp.out [33] rfl
    have f6 := cmpB (b := false) HOp.out [126] rfl
    have f7 := cmpB (b := false) HOp.out [43, 43, 118] rfl
    have f8 := cmpB (b := false) HOp.out [45, 45, 118] rfl
    have f9 := cmpB (b := false) HOp.out [118, 43, 43] rfl
    have f10 := cmpB (b := false) HOp.out [118, 45, 45] rfl
    have f11 := cmpB (b := false) HOp.out [63] rfl
    have f12 := cmpB (b := false) HOp.out [42] rfl
    have f13 := cmpB (b := false) HOp.out [47] rfl
    have f14 := cmpB (b := false) HOp.out [37] rfl
    have f15 := cmpB (b := false) HOp.out [43] rfl
    have f16 := cmpB (b := false) HOp.out [45] rfl
    have f17 := cmpB (b := false) HOp.out [60, 60] rfl
    have f18 := cmpB (b := false) HOp.out [62, 62] rfl
    have f19 := cmpB (b := false) HOp.out [60] rfl
    have f20 := cmpB (b := false) HOp.out [60, 61] rfl
    have f21 := cmpB (b := false) HOp.out [62] rfl
    have f22 := cmpB (b := false) HOp.out [62, 61] rfl
    have f23 := cmpB (b := false) HOp.out [61, 61] rfl
    have f24 := cmpB (b := false) HOp.out [33, 61] rfl
    have f25 := cmpB (b := false) HOp.out [38] rfl
    have f26 := cmpB (b := false) HOp.out [94] rfl
    have f27 := cmpB (b := false) HOp.out [124] rfl
    have f28 := cmpB (b := false) HOp.out [38, 38] rfl
    have f29 := cmpB (b := true) HOp.out [124, 124] rfl
    go_enter Tryz.func40, Tryz.ntmps40
    obtain ⟨c0, c1, c2, c3, cf⟩ := F.out.cells
    go_wp2_with fail
    refine (HC.out _ HB.out).mono ?_
    rintro e w2 ⟨rfl, hb2⟩
    have HB2 := Lib.hid (HB.out.trans (hb2.mono HB.out.size))
    have F2 := Lib.hid (Four.keep F.out hb2)
    have hlt2 := F2.out.lt
    obtain ⟨d0, d1, d2, d3, df⟩ := F2.out.cells
    clear hb2 c0 c1 c2 c3 cf
    cases hs : shapeds [y0, y1] with
    | false =>
      have HSS := Lib.hid hs
      clear hs
      go_wp2_with fail
      go_ret
      exact ⟨by rw [HS.out, HSS.out]; rfl, HB2.out⟩
    | true =>
      have HSS := Lib.hid hs
      clear hs
      go_wp2_with fail
      refine (Tryz.strings_HasSuffix (toB op) ⟨#[61]⟩ _ (by omega)).mono ?_
      rintro e w3 ⟨rfl, rfl⟩
      rw [hsf]
      go_wp2_with fail
      refine (Tryz.strings_Contains_one (toB op) 118 _).mono ?_
      rintro e w4 ⟨rfl, rfl⟩
      rw [hcv]
      go_wp2_with fail
      go_ret
      exact ⟨by rw [HS.out, HSS.out]; rfl, HB2.out⟩
  · have hsf : Lib.hasSuffix (toB op).data.toList (⟨#[61]⟩ : ByteArray).data.toList = false := by rw [toB_data, HOp.out]; rfl
    have hcv : decide (0 ≤ Lib.indexByte (toB op).data.toList 118) = false := by rw [toB_data, HOp.out]; rfl
    have f0 := cmpB (b := false) HOp.out [110] rfl
    have f1 := cmpB (b := false) HOp.out [118] rfl
    have f2 := cmpB (b := false) HOp.out [101] rfl
    have f3 := cmpB (b := false) HOp.out [117, 45] rfl
    have f4 := cmpB (b := false) HOp.out [117, 43] rfl
    have f5 := cmpB (b := false) HOp.out [33] rfl
    have f6 := cmpB (b := false) HOp.out [126] rfl
    have f7 := cmpB (b := false) HOp.out [43, 43, 118] rfl
    have f8 := cmpB (b := false) HOp.out [45, 45, 118] rfl
    have f9 := cmpB (b := false) HOp.out [118, 43, 43] rfl
    have f10 := cmpB (b := false) HOp.out [118, 45, 45] rfl
    have f11 := cmpB (b := false) HOp.out [63] rfl
    have f12 := cmpB (b := false) HOp.out [42] rfl
    have f13 := cmpB (b := false) HOp.out [47] rfl
    have f14 := cmpB (b := false) HOp.out [37] rfl
    have f15 := cmpB (b := false) HOp.out [43] rfl
    have f16 := cmpB (b := false) HOp.out [45] rfl
    have f17 := cmpB (b := false) HOp.out [60, 60] rfl
    have f18 := cmpB (b := false) HOp.out [62, 62] rfl
    have f19 := cmpB (b := false) HOp.out [60] rfl
    have f20 := cmpB (b := false) HOp.out [60, 61] rfl
    have f21 := cmpB (b := false) HOp.out [62] rfl
    have f22 := cmpB (b := false) HOp.out [62, 61] rfl
    have f23 := cmpB (b := false) HOp.out [61, 61] rfl
    have f24 := cmpB (b := false) HOp.out [33, 61] rfl
    have f25 := cmpB (b := false) HOp.out [38] rfl
    have f26 := cmpB (b := false) HOp.out [94] rfl
    have f27 := cmpB (b := false) HOp.out [124] rfl
    have f28 := cmpB (b := false) HOp.out [38, 38] rfl
    have f29 := cmpB (b := false) HOp.out [124, 124] rfl
    have f30 := cmpB (b := true) HOp.out [44] rfl
    go_enter Tryz.func40, Tryz.ntmps40
    obtain ⟨c0, c1, c2, c3, cf⟩ := F.out.cells
    go_wp2_with fail
    refine (HC.out _ HB.out).mono ?_
    rintro e w2 ⟨rfl, hb2⟩
    have HB2 := Lib.hid (HB.out.trans (hb2.mono HB.out.size))
    have F2 := Lib.hid (Four.keep F.out hb2)
    have hlt2 := F2.out.lt
    obtain ⟨d0, d1, d2, d3, df⟩ := F2.out.cells
    clear hb2 c0 c1 c2 c3 cf
    cases hs : shapeds [y0, y1] with
    | false =>
      have HSS := Lib.hid hs
      clear hs
      go_wp2_with fail
      go_ret
      exact ⟨by rw [HS.out, HSS.out]; rfl, HB2.out⟩
    | true =>
      have HSS := Lib.hid hs
      clear hs
      go_wp2_with fail
      refine (Tryz.strings_HasSuffix (toB op) ⟨#[61]⟩ _ (by omega)).mono ?_
      rintro e w3 ⟨rfl, rfl⟩
      rw [hsf]
      go_wp2_with fail
      refine (Tryz.strings_Contains_one (toB op) 118 _).mono ?_
      rintro e w4 ⟨rfl, rfl⟩
      rw [hcv]
      go_wp2_with fail
      go_ret
      exact ⟨by rw [HS.out, HSS.out]; rfl, HB2.out⟩

end Go.Proofs.YtiigclkebnmopaaGreatDoor
