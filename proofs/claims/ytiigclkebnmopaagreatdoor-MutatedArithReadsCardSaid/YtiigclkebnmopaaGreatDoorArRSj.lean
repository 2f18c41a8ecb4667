/- Arithmetic expressions: the reference's exprShape of what has parts. -/
import Derived.Test.YtiigclkebnmopaaGreatDoorArRSi
namespace Go.Proofs.YtiigclkebnmopaaGreatDoor
open Go.RowKit Go.Shelf

theorem shaped_node_eq {op : List UInt8} {l : List Ex} (h : leafO op = false) (h1 : arO op = l.length) (h2 : l.length ≠ 0) : shaped (.mk op 0 [] l) = (shapeds l && (!setsO op || tgt l)) := by
  unfold leafO at h
  simp at h
  conv => lhs; unfold shaped
  rw [if_neg h.1.1, if_neg h.1.2, if_neg h.2, h1, show (l.length != 0) = true from bne_iff_ne.2 h2]
  simp
theorem toB_data (l : List UInt8) : (toB l).data.toList = l := rfl
theorem lit4 (w : World) : TX (w.alloc (.cells #[.string ⟨#[60, 61]⟩, .string ⟨#[62, 61]⟩, .string ⟨#[61, 61]⟩, .string ⟨#[33, 61]⟩] 9)) w.heap.size 0 [[60, 61], [62, 61], [61, 61], [33, 61]] := by
  have hh := heap_alloc_new w (.cells #[.string ⟨#[60, 61]⟩, .string ⟨#[62, 61]⟩, .string ⟨#[61, 61]⟩, .string ⟨#[33, 61]⟩] 9)
  intro j hj
  unfold World.cell?
  dsimp only
  rw [hh, Nat.zero_add]
  match j, hj with
  | 0, _ => rfl
  | 1, _ => rfl
  | 2, _ => rfl
  | 3, _ => rfl

set_option maxRecDepth 100000 in
set_option maxHeartbeats 6400000 in
theorem rshape_un (P : Nat → Prop) (op : List UInt8) (hop : op ∈ ([[117, 45], [117, 43], [33], [126]] : List (List UInt8))) (y0 : Ex) (IH : ∀ y ∈ [y0], RSh P y) : RSh P (.mk op 0 [] [y0]) := by
  intro v w hx
  obtain ⟨A, c, rfl, _, hA⟩ := hx.parts
  have hfc : leafO op = false ∧ arO op = 1 ∧ setsO op = false := by
    have : ∀ op ∈ ([[117, 45], [117, 43], [33], [126]] : List (List UInt8)), leafO op = false ∧ arO op = 1 ∧ setsO op = false := by decide
    exact this op hop
  have HS := Lib.hid (show shaped (.mk op 0 [] [y0]) = shapeds [y0] by
    rw [shaped_node_eq (l := [y0]) hfc.1 hfc.2.1 (by simp), hfc.2.2]
    simp)
  have ba := (Below.refl w.heap.size w).alloc (Nat.le_refl _) (.cells #[.string (toB op), .int .i64 0, .string (toB []), .slice A [y0].length c] 25)
  have HB := Lib.hid ba
  have F := Lib.hid (Four.new w (.string (toB op)) (.int .i64 0) (.string (toB [])) (.slice A [y0].length c))
  have HC := Lib.hid (fun W (hb : Below w.heap.size w W) => rcontains_any P A c [y0] W (hA.below hb) (by simp) IH)
  have hem : (toB []).toList.isEmpty = true := by rw [toB_toList]; rfl
  have hem2 : ((toB []).toList == []) = true := by rw [toB_toList]; rfl
  have hszO : (toB op).size ≤ 1000 := by
    have : ∀ op ∈ ([[117, 45], [117, 43], [33], [126]] : List (List UInt8)), op.length ≤ 3 := by decide
    have := this op hop
    rw [toB_size]
    omega
  obtain ⟨L, hL, hop2⟩ : ∃ L ∈ ([[117, 45], [117, 43], [33], [126]] : List (List UInt8)), op = L := ⟨op, hop, rfl⟩
  have HOp := Lib.hid hop2
  simp only [List.mem_cons, List.not_mem_nil, or_false] at hL
  clear hop hop2 hx IH hA ba hfc
  rcases hL with rfl | rfl | rfl | rfl
  · have hsf : Lib.hasSuffix (toB op).data.toList (⟨#[61]⟩ : ByteArray).data.toList = false := by rw [toB_data, HOp.out]; rfl
    have hcv : decide (0 ≤ Lib.indexByte (toB op).data.toList 118) = false := by rw [toB_data, HOp.out]; rfl
    have f0 := cmpB (b := false) HOp.out [110] rfl
    have f1 := cmpB (b := false) HOp.out [118] rfl
    have f2 := cmpB (b := false) HOp.out [101] rfl
    have f3 := cmpB (b := true) HOp.out [117, 45] rfl
    go_enter Tryz.func40, Tryz.ntmps40
    obtain ⟨c0, c1, c2, c3, cf⟩ := F.out.cells
    go_wp2_with fail
    refine (HC.out _ HB.out).mono ?_
    rintro e w2 ⟨rfl, hb2⟩
    have HB2 := Lib.hid (HB.out.trans (hb2.mono HB.out.size))
    have F2 := Lib.hid (Four.keep F.out hb2)
    have hlt2 := F2.out.lt
    obtain ⟨d0, d1, d2, d3, df⟩ := F2.out.cells
    clear hb2 c0 c1 c2 c3 cf
    cases hs : shapeds [y0] with
    | false =>
      have HSS := Lib.hid hs
      clear hs
      go_wp2_with fail
      go_ret
      exact ⟨by rw [HS.out, HSS.out]; rfl, HB2.out⟩
    | true =>
      have HSS := Lib.hid hs
      clear hs
      go_wp2_with fail
      refine (Tryz.strings_HasSuffix (toB op) ⟨#[61]⟩ _ (by omega)).mono ?_
      rintro e w3 ⟨rfl, rfl⟩
      rw [hsf]
      go_wp2_with fail
      refine (Tryz.strings_Contains_one (toB op) 118 _).mono ?_
      rintro e w4 ⟨rfl, rfl⟩
      rw [hcv]
      go_wp2_with fail
      go_ret
      exact ⟨by rw [HS.out, HSS.out]; rfl, HB2.out⟩
  · have hsf : Lib.hasSuffix (toB op).data.toList (⟨#[61]⟩ : ByteArray).data.toList = false := by rw [toB_data, HOp.out]; rfl
    have hcv : decide (0 ≤ Lib.indexByte (toB op).data.toList 118) = false := by rw [toB_data, HOp.out]; rfl
    have f0 := cmpB (b := false) HOp.out [110] rfl
    have f1 := cmpB (b := false) HOp.out [118] rfl
    have f2 := cmpB (b := false) HOp.out [101] rfl
    have f3 := cmpB (b := false) HOp.out [117, 45] rfl
    have f4 := cmpB (b := true) HOp.out [117, 43] rfl
    go_enter Tryz.func40, Tryz.ntmps40
    obtain ⟨c0, c1, c2, c3, cf⟩ := F.out.cells
    go_wp2_with fail
    refine (HC.out _ HB.out).mono ?_
    rintro e w2 ⟨rfl, hb2⟩
    have HB2 := Lib.hid (HB.out.trans (hb2.mono HB.out.size))
    have F2 := Lib.hid (Four.keep F.out hb2)
    have hlt2 := F2.out.lt
    obtain ⟨d0, d1, d2, d3, df⟩ := F2.out.cells
    clear hb2 c0 c1 c2 c3 cf
    cases hs : shapeds [y0] with
    | false =>
      have HSS := Lib.hid hs
      clear hs
      go_wp2_with fail
      go_ret
      exact ⟨by rw [HS.out, HSS.out]; rfl, HB2.out⟩
    | true =>
      have HSS := Lib.hid hs
      clear hs
      go_wp2_with fail
      refine (Tryz.strings_HasSuffix (toB op) ⟨#[61]⟩ _ (by omega)).mono ?_
      rintro e w3 ⟨rfl, rfl⟩
      rw [hsf]
      go_wp2_with fail
      refine (Tryz.strings_Contains_one (toB op) 118 _).mono ?_
      rintro e w4 ⟨rfl, rfl⟩
      rw [hcv]
      go_wp2_with fail
      go_ret
      exact ⟨by rw [HS.out, HSS.out]; rfl, HB2.out⟩
  · have hsf : Lib.hasSuffix (toB op).data.toList (⟨#[61]⟩ : ByteArray).data.toList = false := by rw [toB_data, HOp.out]; rfl
    have hcv : decide (0 ≤ Lib.indexByte (toB op).data.toList 118) = false := by rw [toB_data, HOp.out]; rfl
    have f0 := cmpB (b := false) HOp.out [110] rfl
    have f1 := cmpB (b := false) HOp.out [118] rfl
    have f2 := cmpB (b := false) HOp.out [101] rfl
    have f3 := cmpB (b := false) HOp.out [117, 45] rfl
    have f4 := cmpB (b := false) HOp.out [117, 43] rfl
    have f5 := cmpB (b := true) HOp.out [33] rfl
    go_enter Tryz.func40, Tryz.ntmps40
    obtain ⟨c0, c1, c2, c3, cf⟩ := F.out.cells
    go_wp2_with fail
    refine (HC.out _ HB.out).mono ?_
    rintro e w2 ⟨rfl, hb2⟩
    have HB2 := Lib.hid (HB.out.trans (hb2.mono HB.out.size))
    have F2 := Lib.hid (Four.keep F.out hb2)
    have hlt2 := F2.out.lt
    obtain ⟨d0, d1, d2, d3, df⟩ := F2.out.cells
    clear hb2 c0 c1 c2 c3 cf
    cases hs : shapeds [y0] with
    | false =>
      have HSS := Lib.hid hs
      clear hs
      go_wp2_with fail
      go_ret
      exact ⟨by rw [HS.out, HSS.out]; rfl, HB2.out⟩
    | true =>
      have HSS := Lib.hid hs
      clear hs
      go_wp2_with fail
      refine (Tryz.strings_HasSuffix (toB op) ⟨#[61]⟩ _ (by omega)).mono ?_
      rintro e w3 ⟨rfl, rfl⟩
      rw [hsf]
      go_wp2_with fail
      refine (Tryz.strings_Contains_one (toB op) 118 _).mono ?_
      rintro e w4 ⟨rfl, rfl⟩
      rw [hcv]
      go_wp2_with fail
      go_ret
      exact ⟨by rw [HS.out, HSS.out]; rfl, HB2.out⟩
  · have hsf : Lib.hasSuffix (toB op).data.toList (⟨#[61]⟩ : ByteArray).data.toList = false := by rw [toB_data, HOp.out]; rfl
    have hcv : decide (0 ≤ Lib.indexByte (toB op).data.toList 118) = false := by rw [toB_data, HOp.out]; rfl
    have f0 := cmpB (b := false) HOp.out [110] rfl
    have f1 := cmpB (b := false) HOp.out [118] rfl
    have f2 := cmpB (b := false) HOp.out [101] rfl
    have f3 := cmpB (b := false) HOp.out [117, 45] rfl
    have f4 := cmpB (b := false) HOp.out [117, 43] rfl
    have f5 := cmpB (b := false) HOp.out [33] rfl
    have f6 := cmpB (b := true) HOp.out [126] rfl
    go_enter Tryz.func40, Tryz.ntmps40
    obtain ⟨c0, c1, c2, c3, cf⟩ := F.out.cells
    go_wp2_with fail
    refine (HC.out _ HB.out).mono ?_
    rintro e w2 ⟨rfl, hb2⟩
    have HB2 := Lib.hid (HB.out.trans (hb2.mono HB.out.size))
    have F2 := Lib.hid (Four.keep F.out hb2)
    have hlt2 := F2.out.lt
    obtain ⟨d0, d1, d2, d3, df⟩ := F2.out.cells
    clear hb2 c0 c1 c2 c3 cf
    cases hs : shapeds [y0] with
    | false =>
      have HSS := Lib.hid hs
      clear hs
      go_wp2_with fail
      go_ret
      exact ⟨by rw [HS.out, HSS.out]; rfl, HB2.out⟩
    | true =>
      have HSS := Lib.hid hs
      clear hs
      go_wp2_with fail
      refine (Tryz.strings_HasSuffix (toB op) ⟨#[61]⟩ _ (by omega)).mono ?_
      rintro e w3 ⟨rfl, rfl⟩
      rw [hsf]
      go_wp2_with fail
      refine (Tryz.strings_Contains_one (toB op) 118 _).mono ?_
      rintro e w4 ⟨rfl, rfl⟩
      rw [hcv]
      go_wp2_with fail
      go_ret
      exact ⟨by rw [HS.out, HSS.out]; rfl, HB2.out⟩

set_option maxRecDepth 100000 in
set_option maxHeartbeats 6400000 in
theorem rshape_tw (P : Nat → Prop) (op : List UInt8) (hop : op ∈ ([[43, 43, 118], [45, 45, 118], [118, 43, 43], [118, 45, 45]] : List (List UInt8))) (y0 : Ex) (IH : ∀ y ∈ [y0], RSh P y) : RSh P (.mk op 0 [] [y0]) := by
  intro v w hx
  obtain ⟨A, c, rfl, _, hA⟩ := hx.parts
  have hfc : leafO op = false ∧ arO op = 1 ∧ setsO op = true := by
    have : ∀ op ∈ ([[43, 43, 118], [45, 45, 118], [118, 43, 43], [118, 45, 45]] : List (List UInt8)), leafO op = false ∧ arO op = 1 ∧ setsO op = true := by decide
    exact this op hop
  have HS := Lib.hid (show shaped (.mk op 0 [] [y0]) = (shapeds [y0] && target y0) by
    rw [shaped_node_eq (l := [y0]) hfc.1 hfc.2.1 (by simp), hfc.2.2]
    rfl)
  have ba := (Below.refl w.heap.size w).alloc (Nat.le_refl _) (.cells #[.string (toB op), .int .i64 0, .string (toB []), .slice A [y0].length c] 25)
  have HB := Lib.hid ba
  have F := Lib.hid (Four.new w (.string (toB op)) (.int .i64 0) (.string (toB [])) (.slice A [y0].length c))
  have HC := Lib.hid (fun W (hb : Below w.heap.size w W) => rcontains_any P A c [y0] W (hA.below hb) (by simp) IH)
  have hem : (toB []).toList.isEmpty = true := by rw [toB_toList]; rfl
  have hem2 : ((toB []).toList == []) = true := by rw [toB_toList]; rfl
  have hszO : (toB op).size ≤ 1000 := by
    have : ∀ op ∈ ([[43, 43, 118], [45, 45, 118], [118, 43, 43], [118, 45, 45]] : List (List UInt8)), op.length ≤ 3 := by decide
    have := this op hop
    rw [toB_size]
    omega
  have HXA := Lib.hid (fun W (hb : Below w.heap.size w W) => hA.below hb)
  obtain ⟨L, hL, hop2⟩ : ∃ L ∈ ([[43, 43, 118], [45, 45, 118], [118, 43, 43], [118, 45, 45]] : List (List UInt8)), op = L := ⟨op, hop, rfl⟩
  have HOp := Lib.hid hop2
  simp only [List.mem_cons, List.not_mem_nil, or_false] at hL
  clear hop hop2 hx IH hA ba hfc
  rcases hL with rfl | rfl | rfl | rfl
  · have hsf : Lib.hasSuffix (toB op).data.toList (⟨#[61]⟩ : ByteArray).data.toList = false := by rw [toB_data, HOp.out]; rfl
    have hcv : decide (0 ≤ Lib.indexByte (toB op).data.toList 118) = true := by rw [toB_data, HOp.out]; rfl
    have f0 := cmpB (b := false) HOp.out [110] rfl
    have f1 := cmpB (b := false) HOp.out [118] rfl
    have f2 := cmpB (b := false) HOp.out [101] rfl
    have f3 := cmpB (b := false) HOp.out [117, 45] rfl
    have f4 := cmpB (b := false) HOp.out [117, 43] rfl
    have f5 := cmpB (b := false) HOp.out [33] rfl
    have f6 := cmpB (b := false) HOp.out [126] rfl
    have f7 := cmpB (b := true) HOp.out [43, 43, 118] rfl
    go_enter Tryz.func40, Tryz.ntmps40
    obtain ⟨c0, c1, c2, c3, cf⟩ := F.out.cells
    go_wp2_with fail
    refine (HC.out _ HB.out).mono ?_
    rintro e w2 ⟨rfl, hb2⟩
    have HB2 := Lib.hid (HB.out.trans (hb2.mono HB.out.size))
    have F2 := Lib.hid (Four.keep F.out hb2)
    have hlt2 := F2.out.lt
    obtain ⟨d0, d1, d2, d3, df⟩ := F2.out.cells
    clear hb2 c0 c1 c2 c3 cf
    cases hs : shapeds [y0] with
    | false =>
      have HSS := Lib.hid hs
      clear hs
      go_wp2_with fail
      go_ret
      exact ⟨by rw [HS.out, HSS.out]; rfl, HB2.out⟩
    | true =>
      have HSS := Lib.hid hs
      clear hs
      go_wp2_with fail
      refine (Tryz.strings_HasSuffix (toB op) ⟨#[61]⟩ _ (by omega)).mono ?_
      rintro e w3 ⟨rfl, rfl⟩
      rw [hsf]
      go_wp2_with fail
      refine (Tryz.strings_Contains_one (toB op) 118 _).mono ?_
      rintro e w4 ⟨rfl, rfl⟩
      rw [hcv]
      obtain ⟨g, off, hAe, _, hg, hLx⟩ := HXA.out _ HB2.out (by simp)
      subst hAe
      obtain ⟨v0, v1, v2, v3, p0, p1, p2, p3, hxy⟩ := ex0 hLx
      obtain ⟨n5, A5, k5, c5, nm5, hv, hq5⟩ := hxy.form
      simp only [Value.agg.injEq, Array.mk.injEq, List.cons.injEq, and_true] at hv
      obtain ⟨rfl, rfl, rfl, rfl⟩ := hv
      have HTg := Lib.hid (show target y0 = (y0.op == [101] || y0.op == [118] && isNm nm5) by rw [hq5]; rfl)
      clear hxy hLx hq5
      go_wp2_with fail
      refine (rtarget_any y0.op nm5 n5 A5 k5 c5 _).mono ?_
      rintro e w5 ⟨rfl, hb5⟩
      have HB5 := Lib.hid (HB2.out.trans (hb5.mono HB2.out.size))
      clear hb5
      go_wp2_with fail
      go_ret
      exact ⟨by rw [HS.out, HSS.out, HTg.out]; rfl, HB5.out⟩
  · have hsf : Lib.hasSuffix (toB op).data.toList (⟨#[61]⟩ : ByteArray).data.toList = false := by rw [toB_data, HOp.out]; rfl
    have hcv : decide (0 ≤ Lib.indexByte (toB op).data.toList 118) = true := by rw [toB_data, HOp.out]; rfl
    have f0 := cmpB (b := false) HOp.out [110] rfl
    have f1 := cmpB (b := false) HOp.out [118] rfl
    have f2 := cmpB (b := false) HOp.out [101] rfl
    have f3 := cmpB (b := false) HOp.out [117, 45] rfl
    have f4 := cmpB (b := false) HOp.out [117, 43] rfl
    have f5 := cmpB (b := false) HOp.out [33] rfl
    have f6 := cmpB (b := false) HOp.out [126] rfl
    have f7 := cmpB (b := false) HOp.out [43, 43, 118] rfl
    have f8 := cmpB (b := true) HOp.out [45, 45, 118] rfl
    go_enter Tryz.func40, Tryz.ntmps40
    obtain ⟨c0, c1, c2, c3, cf⟩ := F.out.cells
    go_wp2_with fail
    refine (HC.out _ HB.out).mono ?_
    rintro e w2 ⟨rfl, hb2⟩
    have HB2 := Lib.hid (HB.out.trans (hb2.mono HB.out.size))
    have F2 := Lib.hid (Four.keep F.out hb2)
    have hlt2 := F2.out.lt
    obtain ⟨d0, d1, d2, d3, df⟩ := F2.out.cells
    clear hb2 c0 c1 c2 c3 cf
    cases hs : shapeds [y0] with
    | false =>
      have HSS := Lib.hid hs
      clear hs
      go_wp2_with fail
      go_ret
      exact ⟨by rw [HS.out, HSS.out]; rfl, HB2.out⟩
    | true =>
      have HSS := Lib.hid hs
      clear hs
      go_wp2_with fail
      refine (Tryz.strings_HasSuffix (toB op) ⟨#[61]⟩ _ (by omega)).mono ?_
      rintro e w3 ⟨rfl, rfl⟩
      rw [hsf]
      go_wp2_with fail
      refine (Tryz.strings_Contains_one (toB op) 118 _).mono ?_
      rintro e w4 ⟨rfl, rfl⟩
      rw [hcv]
      obtain ⟨g, off, hAe, _, hg, hLx⟩ := HXA.out _ HB2.out (by simp)
      subst hAe
      obtain ⟨v0, v1, v2, v3, p0, p1, p2, p3, hxy⟩ := ex0 hLx
      obtain ⟨n5, A5, k5, c5, nm5, hv, hq5⟩ := hxy.form
      simp only [Value.agg.injEq, Array.mk.injEq, List.cons.injEq, and_true] at hv
      obtain ⟨rfl, rfl, rfl, rfl⟩ := hv
      have HTg := Lib.hid (show target y0 = (y0.op == [101] || y0.op == [118] && isNm nm5) by rw [hq5]; rfl)
      clear hxy hLx hq5
      go_wp2_with fail
      refine (rtarget_any y0.op nm5 n5 A5 k5 c5 _).mono ?_
      rintro e w5 ⟨rfl, hb5⟩
      have HB5 := Lib.hid (HB2.out.trans (hb5.mono HB2.out.size))
      clear hb5
      go_wp2_with fail
      go_ret
      exact ⟨by rw [HS.out, HSS.out, HTg.out]; rfl, HB5.out⟩
  · have hsf : Lib.hasSuffix (toB op).data.toList (⟨#[61]⟩ : ByteArray).data.toList = false := by rw [toB_data, HOp.out]; rfl
    have hcv : decide (0 ≤ Lib.indexByte (toB op).data.toList 118) = true := by rw [toB_data, HOp.out]; rfl
    have f0 := cmpB (b := false) HOp.out [110] rfl
    have f1 := cmpB (b := false) HOp.out [118] rfl
    have f2 := cmpB (b := false) HOp.out [101] rfl
    have f3 := cmpB (b := false) HOp.out [117, 45] rfl
    have f4 := cmpB (b := false) HOp.out [117, 43] rfl
    have f5 := cmpB (b := false) HOp.out [33] rfl
    have f6 := cmpB (b := false) HOp.out [126] rfl
    have f7 := cmpB (b := false) HOp.out [43, 43, 118] rfl
    have f8 := cmpB (b := false) HOp.out [45, 45, 118] rfl
    have f9 := cmpB (b := true) HOp.out [118, 43, 43] rfl
    go_enter Tryz.func40, Tryz.ntmps40
    obtain ⟨c0, c1, c2, c3, cf⟩ := F.out.cells
    go_wp2_with fail
    refine (HC.out _ HB.out).mono ?_
    rintro e w2 ⟨rfl, hb2⟩
    have HB2 := Lib.hid (HB.out.trans (hb2.mono HB.out.size))
    have F2 := Lib.hid (Four.keep F.out hb2)
    have hlt2 := F2.out.lt
    obtain ⟨d0, d1, d2, d3, df⟩ := F2.out.cells
    clear hb2 c0 c1 c2 c3 cf
    cases hs : shapeds [y0] with
    | false =>
      have HSS := Lib.hid hs
      clear hs
      go_wp2_with fail
      go_ret
      exact ⟨by rw [HS.out, HSS.out]; rfl, HB2.out⟩
    | true =>
      have HSS := Lib.hid hs
      clear hs
      go_wp2_with fail
      refine (Tryz.strings_HasSuffix (toB op) ⟨#[61]⟩ _ (by omega)).mono ?_
      rintro e w3 ⟨rfl, rfl⟩
      rw [hsf]
      go_wp2_with fail
      refine (Tryz.strings_Contains_one (toB op) 118 _).mono ?_
      rintro e w4 ⟨rfl, rfl⟩
      rw [hcv]
      obtain ⟨g, off, hAe, _, hg, hLx⟩ := HXA.out _ HB2.out (by simp)
      subst hAe
      obtain ⟨v0, v1, v2, v3, p0, p1, p2, p3, hxy⟩ := ex0 hLx
      obtain ⟨n5, A5, k5, c5, nm5, hv, hq5⟩ := hxy.form
      simp only [Value.agg.injEq, Array.mk.injEq, List.cons.injEq, and_true] at hv
      obtain ⟨rfl, rfl, rfl, rfl⟩ := hv
      have HTg := Lib.hid (show target y0 = (y0.op == [101] || y0.op == [118] && isNm nm5) by rw [hq5]; rfl)
      clear hxy hLx hq5
      go_wp2_with fail
      refine (rtarget_any y0.op nm5 n5 A5 k5 c5 _).mono ?_
      rintro e w5 ⟨rfl, hb5⟩
      have HB5 := Lib.hid (HB2.out.trans (hb5.mono HB2.out.size))
      clear hb5
      go_wp2_with fail
      go_ret
      exact ⟨by rw [HS.out, HSS.out, HTg.out]; rfl, HB5.out⟩
  · have hsf : Lib.hasSuffix (toB op).data.toList (⟨#[61]⟩ : ByteArray).data.toList = false := by rw [toB_data, HOp.out]; rfl
    have hcv : decide (0 ≤ Lib.indexByte (toB op).data.toList 118) = true := by rw [toB_data, HOp.out]; rfl
    have f0 := cmpB (b := false) HOp.out [110] rfl
    have f1 := cmpB (b := false) HOp.out [118] rfl
    have f2 := cmpB (b := false) HOp.out [101] rfl
    have f3 := cmpB (b := false) HOp.out [117, 45] rfl
    have f4 := cmpB (b := false) HOp.out [117, 43] rfl
    have f5 := cmpB (b := false) HOp.out [33] rfl
    have f6 := cmpB (b := false) HOp.out [126] rfl
    have f7 := cmpB (b := false) HOp.out [43, 43, 118] rfl
    have f8 := cmpB (b := false) HOp.out [45, 45, 118] rfl
    have f9 := cmpB (b := false) HOp.out [118, 43, 43] rfl
    have f10 := cmpB (b := true) HOp.out [118, 45, 45] rfl
    go_enter Tryz.func40, Tryz.ntmps40
    obtain ⟨c0, c1, c2, c3, cf⟩ := F.out.cells
    go_wp2_with fail
    refine (HC.out _ HB.out).mono ?_
    rintro e w2 ⟨rfl, hb2⟩
    have HB2 := Lib.hid (HB.out.trans (hb2.mono HB.out.size))
    have F2 := Lib.hid (Four.keep F.out hb2)
    have hlt2 := F2.out.lt
    obtain ⟨d0, d1, d2, d3, df⟩ := F2.out.cells
    clear hb2 c0 c1 c2 c3 cf
    cases hs : shapeds [y0] with
    | false =>
      have HSS := Lib.hid hs
      clear hs
      go_wp2_with fail
      go_ret
      exact ⟨by rw [HS.out, HSS.out]; rfl, HB2.out⟩
    | true =>
      have HSS := Lib.hid hs
      clear hs
      go_wp2_with fail
      refine (Tryz.strings_HasSuffix (toB op) ⟨#[61]⟩ _ (by omega)).mono ?_
      rintro e w3 ⟨rfl, rfl⟩
      rw [hsf]
      go_wp2_with fail
      refine (Tryz.strings_Contains_one (toB op) 118 _).mono ?_
      rintro e w4 ⟨rfl, rfl⟩
      rw [hcv]
      obtain ⟨g, off, hAe, _, hg, hLx⟩ := HXA.out _ HB2.out (by simp)
      subst hAe
      obtain ⟨v0, v1, v2, v3, p0, p1, p2, p3, hxy⟩ := ex0 hLx
      obtain ⟨n5, A5, k5, c5, nm5, hv, hq5⟩ := hxy.form
      simp only [Value.agg.injEq, Array.mk.injEq, List.cons.injEq, and_true] at hv
      obtain ⟨rfl, rfl, rfl, rfl⟩ := hv
      have HTg := Lib.hid (show target y0 = (y0.op == [101] || y0.op == [118] && isNm nm5) by rw [hq5]; rfl)
      clear hxy hLx hq5
      go_wp2_with fail
      refine (rtarget_any y0.op nm5 n5 A5 k5 c5 _).mono ?_
      rintro e w5 ⟨rfl, hb5⟩
      have HB5 := Lib.hid (HB2.out.trans (hb5.mono HB2.out.size))
      clear hb5
      go_wp2_with fail
      go_ret
      exact ⟨by rw [HS.out, HSS.out, HTg.out]; rfl, HB5.out⟩

set_option maxRecDepth 100000 in
set_option maxHeartbeats 6400000 in
theorem rshape_qu (P : Nat → Prop) (op : List UInt8) (hop : op ∈ ([[63]] : List (List UInt8))) (y0 y1 y2 : Ex) (IH : ∀ y ∈ [y0, y1, y2], RSh P y) : RSh P (.mk op 0 [] [y0, y1, y2]) := by
  intro v w hx
  obtain ⟨A, c, rfl, _, hA⟩ := hx.parts
  have hfc : leafO op = false ∧ arO op = 3 ∧ setsO op = false := by
    have : ∀ op ∈ ([[63]] : List (List UInt8)), leafO op = false ∧ arO op = 3 ∧ setsO op = false := by decide
    exact this op hop
  have HS := Lib.hid (show shaped (.mk op 0 [] [y0, y1, y2]) = shapeds [y0, y1, y2] by
    rw [shaped_node_eq (l := [y0, y1, y2]) hfc.1 hfc.2.1 (by simp), hfc.2.2]
    simp)
  have ba := (Below.refl w.heap.size w).alloc (Nat.le_refl _) (.cells #[.string (toB op), .int .i64 0, .string (toB []), .slice A [y0, y1, y2].length c] 25)
  have HB := Lib.hid ba
  have F := Lib.hid (Four.new w (.string (toB op)) (.int .i64 0) (.string (toB [])) (.slice A [y0, y1, y2].length c))
  have HC := Lib.hid (fun W (hb : Below w.heap.size w W) => rcontains_any P A c [y0, y1, y2] W (hA.below hb) (by simp) IH)
  have hem : (toB []).toList.isEmpty = true := by rw [toB_toList]; rfl
  have hem2 : ((toB []).toList == []) = true := by rw [toB_toList]; rfl
  have hszO : (toB op).size ≤ 1000 := by
    have : ∀ op ∈ ([[63]] : List (List UInt8)), op.length ≤ 3 := by decide
    have := this op hop
    rw [toB_size]
    omega
  obtain ⟨L, hL, hop2⟩ : ∃ L ∈ ([[63]] : List (List UInt8)), op = L := ⟨op, hop, rfl⟩
  have HOp := Lib.hid hop2
  simp only [List.mem_cons, List.not_mem_nil, or_false] at hL
  clear hop hop2 hx IH hA ba hfc
  rcases hL with rfl
  · have hsf : Lib.hasSuffix (toB op).data.toList (⟨#[61]⟩ : ByteArray).data.toList = false := by rw [toB_data, HOp.out]; rfl
    have hcv : decide (0 ≤ Lib.indexByte (toB op).data.toList 118) = false := by rw [toB_data, HOp.out]; rfl
    have f0 := cmpB (b := false) HOp.out [110] rfl
    have f1 := cmpB (b := false) HOp.out [118] rfl
    have f2 := cmpB (b := false) HOp.out [101] rfl
    have f3 := cmpB (b := false) HOp.out [117, 45] rfl
    have f4 := cmpB (b := false) HOp.out [117, 43] rfl
    have f5 := cmpB (b := false) HOp.out [33] rfl
    have f6 := cmpB (b := false) HOp.out [126] rfl
    have f7 := cmpB (b := false) HOp.out [43, 43, 118] rfl
    have f8 := cmpB (b := false) HOp.out [45, 45, 118] rfl
    have f9 := cmpB (b := false) HOp.out [118, 43, 43] rfl
    have f10 := cmpB (b := false) HOp.out [118, 45, 45] rfl
    have f11 := cmpB (b := true) HOp.out [63] rfl
    go_enter Tryz.func40, Tryz.ntmps40
    obtain ⟨c0, c1, c2, c3, cf⟩ := F.out.cells
    go_wp2_with fail
    refine (HC.out _ HB.out).mono ?_
    rintro e w2 ⟨rfl, hb2⟩
    have HB2 := Lib.hid (HB.out.trans (hb2.mono HB.out.size))
    have F2 := Lib.hid (Four.keep F.out hb2)
    have hlt2 := F2.out.lt
    obtain ⟨d0, d1, d2, d3, df⟩ := F2.out.cells
    clear hb2 c0 c1 c2 c3 cf
    cases hs : shapeds [y0, y1, y2] with
    | false =>
      have HSS := Lib.hid hs
      clear hs
      go_wp2_with fail
      go_ret
      exact ⟨by rw [HS.out, HSS.out]; rfl, HB2.out⟩
    | true =>
      have HSS := Lib.hid hs
      clear hs
      go_wp2_with fail
      refine (Tryz.strings_HasSuffix (toB op) ⟨#[61]⟩ _ (by omega)).mono ?_
      rintro e w3 ⟨rfl, rfl⟩
      rw [hsf]
      go_wp2_with fail
      refine (Tryz.strings_Contains_one (toB op) 118 _).mono ?_
      rintro e w4 ⟨rfl, rfl⟩
      rw [hcv]
      go_wp2_with fail
      go_ret
      exact ⟨by rw [HS.out, HSS.out]; rfl, HB2.out⟩

end Go.Proofs.YtiigclkebnmopaaGreatDoor
