/- TildeMatches: the law's walk. -/
import Derived.Test.YtlhmlbhpflgbpaaGreatDoorTlZ
namespace Go.Proofs.YtlhmlbhpflgbpaaGreatDoor
open Go.RowKit

/-- a state whose variables are plain -/
structure Pl (S : ShV) : Prop where
  v : ∀ x ∈ S.vs, x.il = false ∧ x.fx = false ∧ x.ls = [] ∧ x.vl.size ≤ 1152921504606846976
  pos : 0 < S.vs.length
  dr : S.dr = ⟨#[47]⟩
theorem Pl.put {S : ShV} (h : Pl S) (n v : ByteArray) (b : Bool) (hv : v.size ≤ 1152921504606846976) : Pl (putS S (plainV n v b)) := by
  refine ⟨fun x hx => ?_, List.length_pos_of_mem (setV_mem S.vs (plainV n v b)), h.dr⟩
  rcases mem_setV hx with rfl | hx
  · exact ⟨rfl, rfl, rfl, hv⟩
  · exact h.v x hx
theorem Pl.small {S : ShV} (h : Pl S) (hok : okS S) : Small S := Small.of_ok hok fun x hx => by rw [(h.v x hx).2.2.1]; exact Nat.zero_le _
theorem pl_new : Pl newS := by
  refine ⟨fun x hx => ?_, by decide, rfl⟩
  simp only [newS, List.mem_cons, List.not_mem_nil, or_false] at hx
  obtain rfl | rfl | rfl := hx <;> exact ⟨rfl, rfl, rfl, by decide⟩
theorem ok_new : okS newS := by
  refine ⟨fun s hs => ?_, by decide, by decide, by decide, fun x hx => ?_, fun i hi => ?_, fun x hx => ?_, by decide, by decide, by decide⟩
  · simp only [textsL, textsV, newS, List.flatMap_cons, List.flatMap_nil, List.mem_cons, List.mem_append, List.nil_append, List.append_nil, List.not_mem_nil, or_false] at hs
    unfold noZ
    rcases hs with rfl | rfl | (rfl | rfl) | (rfl | rfl) | (rfl | rfl) <;> decide
  · simp only [newS, List.mem_cons, List.not_mem_nil, or_false] at hx
    unfold nameOK letU digU
    obtain rfl | rfl | rfl := hx <;> decide
  · have h2 : i = 0 ∨ i = 1 := by
      have : i + 1 < 3 := hi
      omega
    unfold lessS
    obtain rfl | rfl := h2
    · show Op.bytesLess nHOME.toList nIFS.toList = true
      rw [ByteArray.toList_eq, ByteArray.toList_eq]
      decide
    · show Op.bytesLess nIFS.toList nPWD.toList = true
      rw [ByteArray.toList_eq, ByteArray.toList_eq]
      decide
  · simp only [newS, List.mem_cons, List.not_mem_nil, or_false] at hx
    obtain rfl | rfl | rfl := hx <;> exact ⟨fun _ => rfl, fun h => by cases h⟩
def TrueP (w : World) (e : Ending) (w' : World) : Prop := e = .returned (.bool true) ∧ Below w.heap.size w w'
set_option maxRecDepth 100000 in
set_option maxHeartbeats 3200000 in
theorem tilde_law (text home old : ByteArray) (w : World) (hx : text.size ≤ 1152921504606846976) (hh : home.size ≤ 1152921504606840000) (ho : old.size ≤ 1152921504606840000) :
    Calls Tryz.prog 3 #[.string text, .string home, .string old] w (TrueP w) := by
  obtain ⟨Q, hQ⟩ : ∃ Q, TrueP w = Q := ⟨_, rfl⟩
  rw [hQ]
  have HQ := Lib.hid (fun w' (h : Below w.heap.size w w') => (show Q (.returned (.bool true)) w' from hQ ▸ ⟨rfl, h⟩))
  have HX := Lib.hid hx
  have HH := Lib.hid hh
  have HO := Lib.hid ho
  clear hQ hx hh ho
  have HSET := Lib.hid (fun V W hm => Set_any newS ⟨(none, 0, 0), V⟩ nHOME home W hm (pl_new.small ok_new) rfl (by decide) (fun v hv => (pl_new.v v hv).2.1) (by have := HH.out; have : nHOME.size = 4 := rfl; omega))
  go_enter Tryz.func3, Tryz.ntmps3
  go_upto_region 3 with (go_at_call 4; refine (landed_any _).mono ?_; rintro e w0 ⟨rfl, hb0⟩)
  have HB0 := Lib.hid hb0
  clear hb0
  have HNEW := Lib.hid (new_any w0)
  unfold NewP at HNEW
  go_upto_region 4 with first
    | (go_at_call 6; refine HNEW.out.mono ?_; rintro e w1 ⟨V1, rfl, hm1, hb1⟩; have HB1 := Lib.hid (HB0.out.trans (hb1.mono HB0.out.size)); have HS1 := Lib.hid (HSET.out V1 w1 hm1); clear hm1 hb1; unfold SetP at HS1)
    | (go_at_call 5; refine HS1.out.mono ?_; rintro e w2 ⟨c, S1, ⟨a1, a2, a3⟩, ⟨v1, v2, v3⟩, rfl, hb2, hc2, hk2⟩; have HB2 := Lib.hid (HB1.out.trans (hb2.mono HB1.out.size)); have HC2 := Lib.hid hc2; have HK2 := Lib.hid (hk2 ok_new).2.2; clear hb2 hc2 hk2; dsimp only [cS, cellsS, sv])
  obtain ⟨x, hxx⟩ : ∃ x, x = w2.heap.size := ⟨_, rfl⟩
  obtain ⟨W3, hW3⟩ : ∃ W3, W3 = w2.alloc (.cells #[.string S1.nm, .slice a1 a2 a3, .slice v1 v2 v3, .slice none 0 0, .slice none 0 0, .int .i64 S1.op, .int .i64 S1.st, .int .i64 S1.msk, .string S1.dr] 28) := ⟨_, rfl⟩
  have HB3 : Hid (Below w.heap.size w W3) := Lib.hid (by rw [hW3]; exact HB2.out.alloc HB2.out.size _)
  have HBK3 : Hid (Blk W3 x 28 #[.string S1.nm, .slice a1 a2 a3, .slice v1 v2 v3, .slice none 0 0, .slice none 0 0, .int .i64 S1.op, .int .i64 S1.st, .int .i64 S1.msk, .string S1.dr]) := Lib.hid (by rw [hW3]; exact Blk.new w2 _ _ hxx.symm)
  have HK3 : Hid (Below w2.heap.size w2 W3) := Lib.hid (by rw [hW3]; exact (Below.refl _ w2).alloc (Nat.le_refl _) _)
  have HXW : Hid (w.heap.size ≤ x) := Lib.hid (by rw [hxx]; exact HB2.out.size)
  rw [← hxx, ← hW3]
  clear hW3 hxx
  by_cases hcz : c = 0
  case neg =>
    have hcb : (c == 0) = false := beq_eq_false_iff_ne.2 hcz
    clear HC2 HK2
    go_wp2_with fail
    exact HQ.out _ HB3.out
  subst hcz
  obtain ⟨hS1, _, _, hok1, hm1, _⟩ := HC2.out rfl
  have HPL1 : Hid (Pl S1) := Lib.hid (by rw [hS1]; exact pl_new.put _ _ _ (by have := HH.out; omega))
  have HOK1 := Lib.hid hok1
  have HM3 : Hid (ShM W3 S1 ⟨(a1, a2, a3), (v1, v2, v3)⟩) := Lib.hid (hm1.keep HK3.out)
  clear hS1 hok1 hm1 HC2 HK2
  cases hol : (old.toList == [])
  case true =>
    go_upto_region 10 with fail
    have HTA : Hid (∀ W1, Below W3.heap.size W3 W1 → Calls Tryz.prog 7 #[.agg #[.string S1.nm, .slice a1 a2 a3, .slice v1 v2 v3, .slice none 0 0, .slice none 0 0, .int .i64 S1.op, .int .i64 S1.st, .int .i64 S1.msk, .string S1.dr], .string text] W1 (TildeP S1.vs text W1)) := Lib.hid (fun W1 h => Tilde_any S1 ⟨(a1, a2, a3), (v1, v2, v3)⟩ text W1 (HM3.out.keep h) (HPL1.out.small HOK1.out) HPL1.out.dr HOK1.out (fun y hy => (HPL1.out.v y hy).1) HX.out (fun y hy => (HPL1.out.v y hy).2.2.2))
    have HTB : Hid (∀ W1, Below W3.heap.size W3 W1 → Calls Tryz.prog 8 #[.agg #[.string S1.nm, .slice a1 a2 a3, .slice v1 v2 v3, .slice none 0 0, .slice none 0 0, .int .i64 S1.op, .int .i64 S1.st, .int .i64 S1.msk, .string S1.dr], .string text] W1 (TildeP S1.vs text W1)) := Lib.hid (fun W1 h => tildeOf_any S1 ⟨(a1, a2, a3), (v1, v2, v3)⟩ text W1 (HM3.out.keep h) (HPL1.out.small HOK1.out) HOK1.out.rises (fun y hy => (HPL1.out.v y hy).1) HX.out (fun y hy => (HPL1.out.v y hy).2.2.2))
    unfold TildeP at HTA HTB
    generalize tildeL S1.vs text = rt at HTA HTB
    have HD : Hid (Below W3.heap.size W3 W3.drew) := Lib.hid (Below.refl _ _).drew
    have HBD := Lib.hid (HB3.out.trans (HD.out.mono HB3.out.size))
    have HBKD := Lib.hid (HBK3.out.keep HD.out)
    have hS : W3.drew.cell? ⟨x, 0, none⟩ = some (.string S1.nm) ∧ W3.drew.cell? ⟨x, 1, none⟩ = some (.slice a1 a2 a3) ∧ W3.drew.cell? ⟨x, 2, none⟩ = some (.slice v1 v2 v3) ∧ W3.drew.cell? ⟨x, 3, none⟩ = some (.slice none 0 0) ∧ W3.drew.cell? ⟨x, 4, none⟩ = some (.slice none 0 0) ∧ W3.drew.cell? ⟨x, 5, none⟩ = some (.int .i64 S1.op) ∧ W3.drew.cell? ⟨x, 6, none⟩ = some (.int .i64 S1.st) ∧ W3.drew.cell? ⟨x, 7, none⟩ = some (.int .i64 S1.msk) ∧ W3.drew.cell? ⟨x, 8, none⟩ = some (.string S1.dr) := ⟨HBKD.out.cell.1 0, HBKD.out.cell.1 1, HBKD.out.cell.1 2, HBKD.out.cell.1 3, HBKD.out.cell.1 4, HBKD.out.cell.1 5, HBKD.out.cell.1 6, HBKD.out.cell.1 7, HBKD.out.cell.1 8⟩
    refine wp_region_tail 7 (fun W => W.cell? ⟨x, 0, none⟩ = some (.string S1.nm) ∧ W.cell? ⟨x, 1, none⟩ = some (.slice a1 a2 a3) ∧ W.cell? ⟨x, 2, none⟩ = some (.slice v1 v2 v3) ∧ W.cell? ⟨x, 3, none⟩ = some (.slice none 0 0) ∧ W.cell? ⟨x, 4, none⟩ = some (.slice none 0 0) ∧ W.cell? ⟨x, 5, none⟩ = some (.int .i64 S1.op) ∧ W.cell? ⟨x, 6, none⟩ = some (.int .i64 S1.st) ∧ W.cell? ⟨x, 7, none⟩ = some (.int .i64 S1.msk) ∧ W.cell? ⟨x, 8, none⟩ = some (.string S1.dr)) (by kernel_rfl) (by decide) ?_
    generalize W3.drew = WD at *
    refine wpAnyT_take 99 0 (v := ?_) (by kernel_rfl) rfl (by kernel_rfl) (fun _ _ _ h => h) (Or.inl ⟨by rfl, fun W hW => ?_⟩) (by with_reducible assumption) ?_
    rotate_left
    focus ((try dsimp only at hW); go_simp; try with_reducible rfl)
    refine wpAnyT_take 99 1 (v := ?_) (by kernel_rfl) rfl (by kernel_rfl) (fun _ _ _ h => h) (Or.inl ⟨by rfl, fun W hW => ?_⟩) (by with_reducible assumption) ?_
    rotate_left
    focus ((try dsimp only at hW); go_simp; try with_reducible rfl)
    refine wpAnyT_take 99 3 (v := ?_) (by kernel_rfl) rfl (by kernel_rfl) (fun _ _ _ h => h) (Or.inl ⟨by rfl, fun W hW => ?_⟩) (by with_reducible assumption) ?_
    rotate_left
    focus ((try dsimp only at hW); go_simp; try with_reducible rfl)
    refine wpAnyT_take 99 4 (v := ?_) (by kernel_rfl) rfl (by kernel_rfl) (fun _ _ _ h => h) (Or.inl ⟨by rfl, fun W hW => ?_⟩) (by with_reducible assumption) ?_
    rotate_left
    focus ((try dsimp only at hW); go_simp; try with_reducible rfl)
    simp only [Act.put, List.getElem_toArray, List.getElem_cons_zero, List.getElem_cons_succ, List.setIfInBounds_toArray, List.set_cons_zero, List.set_cons_succ]
    refine wpAnyT_one 2 (by kernel_rfl) (by decide) ?_
    refine wpOp_at rfl rfl (fun K hK => ?_)
    go_simp
    refine (HTA.out _ HD.out).mono ?_
    rintro e w8 ⟨rfl, hb⟩
    have HD8 := Lib.hid ((HD.out).trans (hb.mono (HD.out).size))
    have HBK8 := Lib.hid (HBKD.out.keep hb)
    clear hb
    refine hK.out _ _ ⟨⟨HBK8.out.cell.1 0, HBK8.out.cell.1 1, HBK8.out.cell.1 2, HBK8.out.cell.1 3, HBK8.out.cell.1 4, HBK8.out.cell.1 5, HBK8.out.cell.1 6, HBK8.out.cell.1 7, HBK8.out.cell.1 8⟩, ?_⟩
    clear hK K
    refine wpAnyT_one 5 (by kernel_rfl) (by decide) ?_
    refine wpOp_at rfl rfl (fun K hK => ?_)
    go_simp
    refine (HTB.out _ HD8.out).mono ?_
    rintro e w9 ⟨rfl, hb⟩
    have HD9 := Lib.hid ((HD8.out).trans (hb.mono (HD8.out).size))
    have HBK9 := Lib.hid (HBK8.out.keep hb)
    clear hb
    refine hK.out _ _ ⟨⟨HBK9.out.cell.1 0, HBK9.out.cell.1 1, HBK9.out.cell.1 2, HBK9.out.cell.1 3, HBK9.out.cell.1 4, HBK9.out.cell.1 5, HBK9.out.cell.1 6, HBK9.out.cell.1 7, HBK9.out.cell.1 8⟩, ?_⟩
    clear hK K
    refine wpAnyT_one 6 (by kernel_rfl) (by decide) ?_
    refine wpOp_at rfl rfl (fun K hK => ?_)
    go_simp
    refine hK.out _ _ ⟨⟨HBK9.out.cell.1 0, HBK9.out.cell.1 1, HBK9.out.cell.1 2, HBK9.out.cell.1 3, HBK9.out.cell.1 4, HBK9.out.cell.1 5, HBK9.out.cell.1 6, HBK9.out.cell.1 7, HBK9.out.cell.1 8⟩, ?_⟩
    clear hK K
    refine ⟨by kernel_rfl, ?_⟩
    simp only [List.drop_succ_cons, List.drop_zero]
    refine wpList_plain rfl fun K hK => ?_
    go_simp
    apply hK
    go_wp2_with fail
    exact HQ.out _ (HB3.out.trans (HD9.out.mono HB3.out.size))
  · obtain ⟨x0, x1, x2, x3, x4, x5, x6, x7, x8, xf⟩ := HBK3.out.nine
    have HS2 : Hid (Calls Tryz.prog 5 #[.agg #[.string S1.nm, .slice a1 a2 a3, .slice v1 v2 v3, .slice none 0 0, .slice none 0 0, .int .i64 S1.op, .int .i64 S1.st, .int .i64 S1.msk, .string S1.dr], .string nOLD, .string old] W3 (SetP S1 nOLD old W3)) := Lib.hid (Set_any S1 ⟨(a1, a2, a3), (v1, v2, v3)⟩ nOLD old W3 HM3.out (HPL1.out.small HOK1.out) HPL1.out.dr HPL1.out.pos (fun y hy => (HPL1.out.v y hy).2.1) (by have := HO.out; have : nOLD.size = 6 := rfl; omega))
    unfold SetP at HS2
    unfold nOLD at HS2
    have HBL : Hid (∀ w5, Below W3.heap.size W3 w5 → Blk w5 x 28 #[.string S1.nm, .slice a1 a2 a3, .slice v1 v2 v3, .slice none 0 0, .slice none 0 0, .int .i64 S1.op, .int .i64 S1.st, .int .i64 S1.msk, .string S1.dr]) := Lib.hid (fun w5 h => HBK3.out.keep h)
    go_upto_region 8 with (go_at_call 5; refine HS2.out.mono ?_; rintro e w5 ⟨c, S2, ⟨d1, d2, d3⟩, ⟨u1, u2, u3⟩, rfl, hb5, hc5, hk5⟩; have HB5 := Lib.hid (HB3.out.trans (hb5.mono HB3.out.size)); have HBK5 := Lib.hid (HBK3.out.keep hb5); have HC5 := Lib.hid hc5; obtain ⟨y0, y1, y2, y3, y4, y5, y6, y7, y8, yf⟩ := HBK5.out.nine; clear hb5 hc5 hk5; dsimp only [cS, sv])
    obtain ⟨W6, hW6⟩ : ∃ W6, W6 = set9 w5 x (.string S2.nm) (.slice d1 d2 d3) (.slice u1 u2 u3) (.slice none 0 0) (.slice none 0 0) (.int .i64 S2.op) (.int .i64 S2.st) (.int .i64 S2.msk) (.string S2.dr) := ⟨_, rfl⟩
    have HB6 : Hid (Below w.heap.size w W6) := Lib.hid (by rw [hW6]; exact set9_below HB5.out HXW.out _ _ _ _ _ _ _ _ _)
    have HBK6 : Hid (Blk W6 x 28 #[.string S2.nm, .slice d1 d2 d3, .slice u1 u2 u3, .slice none 0 0, .slice none 0 0, .int .i64 S2.op, .int .i64 S2.st, .int .i64 S2.msk, .string S2.dr]) := Lib.hid (by rw [hW6]; exact set9_blk HBK5.out _ _ _ _ _ _ _ _ _)
    have HST := Lib.hid hW6
    unfold set9 at hW6
    rw [← hW6]
    clear hW6 x0 x1 x2 x3 x4 x5 x6 x7 x8 xf y0 y1 y2 y3 y4 y5 y6 y7 y8 yf HS2 HBL
    by_cases hcz : c = 0
    case neg =>
      have hcb : (c == 0) = false := beq_eq_false_iff_ne.2 hcz
      clear HC5
      go_wp2_with fail
      exact HQ.out _ HB6.out
    subst hcz
    obtain ⟨hS2, _, _, hok2, hm2, P, B, hP, hvo⟩ := HC5.out rfl
    have HPL2 : Hid (Pl S2) := Lib.hid (by rw [hS2]; exact HPL1.out.put _ _ _ (by have := HO.out; omega))
    have HOK2 := Lib.hid hok2
    have HM6 : Hid (ShM W6 S2 ⟨(d1, d2, d3), (u1, u2, u3)⟩) := Lib.hid (by
      rw [HST.out]
      refine ⟨hm2.ar.keepT (set9_keepT HBK5.out (by decide) _ _ _ _ _ _ _ _ _), ?_⟩
      have := (set9_vo hvo HBK5.out (by decide) (by decide) (.string S2.nm) (.slice d1 d2 d3) (.slice u1 u2 u3) (.slice none 0 0) (.slice none 0 0) (.int .i64 S2.op) (.int .i64 S2.st) (.int .i64 S2.msk) (.string S2.dr)).vl
      rw [hP] at this
      exact this)
    clear hS2 hok2 hm2 hP hvo HC5 HST
    go_upto_region 10 with fail
    have HTA : Hid (∀ W1, Below W6.heap.size W6 W1 → Calls Tryz.prog 7 #[.agg #[.string S2.nm, .slice d1 d2 d3, .slice u1 u2 u3, .slice none 0 0, .slice none 0 0, .int .i64 S2.op, .int .i64 S2.st, .int .i64 S2.msk, .string S2.dr], .string text] W1 (TildeP S2.vs text W1)) := Lib.hid (fun W1 h => Tilde_any S2 ⟨(d1, d2, d3), (u1, u2, u3)⟩ text W1 (HM6.out.keep h) (HPL2.out.small HOK2.out) HPL2.out.dr HOK2.out (fun y hy => (HPL2.out.v y hy).1) HX.out (fun y hy => (HPL2.out.v y hy).2.2.2))
    have HTB : Hid (∀ W1, Below W6.heap.size W6 W1 → Calls Tryz.prog 8 #[.agg #[.string S2.nm, .slice d1 d2 d3, .slice u1 u2 u3, .slice none 0 0, .slice none 0 0, .int .i64 S2.op, .int .i64 S2.st, .int .i64 S2.msk, .string S2.dr], .string text] W1 (TildeP S2.vs text W1)) := Lib.hid (fun W1 h => tildeOf_any S2 ⟨(d1, d2, d3), (u1, u2, u3)⟩ text W1 (HM6.out.keep h) (HPL2.out.small HOK2.out) HOK2.out.rises (fun y hy => (HPL2.out.v y hy).1) HX.out (fun y hy => (HPL2.out.v y hy).2.2.2))
    unfold TildeP at HTA HTB
    generalize tildeL S2.vs text = rt at HTA HTB
    have HD : Hid (Below W6.heap.size W6 W6.drew) := Lib.hid (Below.refl _ _).drew
    have HBD := Lib.hid (HB6.out.trans (HD.out.mono HB6.out.size))
    have HBKD := Lib.hid (HBK6.out.keep HD.out)
    have hS : W6.drew.cell? ⟨x, 0, none⟩ = some (.string S2.nm) ∧ W6.drew.cell? ⟨x, 1, none⟩ = some (.slice d1 d2 d3) ∧ W6.drew.cell? ⟨x, 2, none⟩ = some (.slice u1 u2 u3) ∧ W6.drew.cell? ⟨x, 3, none⟩ = some (.slice none 0 0) ∧ W6.drew.cell? ⟨x, 4, none⟩ = some (.slice none 0 0) ∧ W6.drew.cell? ⟨x, 5, none⟩ = some (.int .i64 S2.op) ∧ W6.drew.cell? ⟨x, 6, none⟩ = some (.int .i64 S2.st) ∧ W6.drew.cell? ⟨x, 7, none⟩ = some (.int .i64 S2.msk) ∧ W6.drew.cell? ⟨x, 8, none⟩ = some (.string S2.dr) := ⟨HBKD.out.cell.1 0, HBKD.out.cell.1 1, HBKD.out.cell.1 2, HBKD.out.cell.1 3, HBKD.out.cell.1 4, HBKD.out.cell.1 5, HBKD.out.cell.1 6, HBKD.out.cell.1 7, HBKD.out.cell.1 8⟩
    refine wp_region_tail 7 (fun W => W.cell? ⟨x, 0, none⟩ = some (.string S2.nm) ∧ W.cell? ⟨x, 1, none⟩ = some (.slice d1 d2 d3) ∧ W.cell? ⟨x, 2, none⟩ = some (.slice u1 u2 u3) ∧ W.cell? ⟨x, 3, none⟩ = some (.slice none 0 0) ∧ W.cell? ⟨x, 4, none⟩ = some (.slice none 0 0) ∧ W.cell? ⟨x, 5, none⟩ = some (.int .i64 S2.op) ∧ W.cell? ⟨x, 6, none⟩ = some (.int .i64 S2.st) ∧ W.cell? ⟨x, 7, none⟩ = some (.int .i64 S2.msk) ∧ W.cell? ⟨x, 8, none⟩ = some (.string S2.dr)) (by kernel_rfl) (by decide) ?_
    generalize W6.drew = WD at *
    refine wpAnyT_take 99 0 (v := ?_) (by kernel_rfl) rfl (by kernel_rfl) (fun _ _ _ h => h) (Or.inl ⟨by rfl, fun W hW => ?_⟩) (by with_reducible assumption) ?_
    rotate_left
    focus ((try dsimp only at hW); go_simp; try with_reducible rfl)
    refine wpAnyT_take 99 1 (v := ?_) (by kernel_rfl) rfl (by kernel_rfl) (fun _ _ _ h => h) (Or.inl ⟨by rfl, fun W hW => ?_⟩) (by with_reducible assumption) ?_
    rotate_left
    focus ((try dsimp only at hW); go_simp; try with_reducible rfl)
    refine wpAnyT_take 99 3 (v := ?_) (by kernel_rfl) rfl (by kernel_rfl) (fun _ _ _ h => h) (Or.inl ⟨by rfl, fun W hW => ?_⟩) (by with_reducible assumption) ?_
    rotate_left
    focus ((try dsimp only at hW); go_simp; try with_reducible rfl)
    refine wpAnyT_take 99 4 (v := ?_) (by kernel_rfl) rfl (by kernel_rfl) (fun _ _ _ h => h) (Or.inl ⟨by rfl, fun W hW => ?_⟩) (by with_reducible assumption) ?_
    rotate_left
    focus ((try dsimp only at hW); go_simp; try with_reducible rfl)
    simp only [Act.put, List.getElem_toArray, List.getElem_cons_zero, List.getElem_cons_succ, List.setIfInBounds_toArray, List.set_cons_zero, List.set_cons_succ]
    refine wpAnyT_one 2 (by kernel_rfl) (by decide) ?_
    refine wpOp_at rfl rfl (fun K hK => ?_)
    go_simp
    refine (HTA.out _ HD.out).mono ?_
    rintro e w8 ⟨rfl, hb⟩
    have HD8 := Lib.hid ((HD.out).trans (hb.mono (HD.out).size))
    have HBK8 := Lib.hid (HBKD.out.keep hb)
    clear hb
    refine hK.out _ _ ⟨⟨HBK8.out.cell.1 0, HBK8.out.cell.1 1, HBK8.out.cell.1 2, HBK8.out.cell.1 3, HBK8.out.cell.1 4, HBK8.out.cell.1 5, HBK8.out.cell.1 6, HBK8.out.cell.1 7, HBK8.out.cell.1 8⟩, ?_⟩
    clear hK K
    refine wpAnyT_one 5 (by kernel_rfl) (by decide) ?_
    refine wpOp_at rfl rfl (fun K hK => ?_)
    go_simp
    refine (HTB.out _ HD8.out).mono ?_
    rintro e w9 ⟨rfl, hb⟩
    have HD9 := Lib.hid ((HD8.out).trans (hb.mono (HD8.out).size))
    have HBK9 := Lib.hid (HBK8.out.keep hb)
    clear hb
    refine hK.out _ _ ⟨⟨HBK9.out.cell.1 0, HBK9.out.cell.1 1, HBK9.out.cell.1 2, HBK9.out.cell.1 3, HBK9.out.cell.1 4, HBK9.out.cell.1 5, HBK9.out.cell.1 6, HBK9.out.cell.1 7, HBK9.out.cell.1 8⟩, ?_⟩
    clear hK K
    refine wpAnyT_one 6 (by kernel_rfl) (by decide) ?_
    refine wpOp_at rfl rfl (fun K hK => ?_)
    go_simp
    refine hK.out _ _ ⟨⟨HBK9.out.cell.1 0, HBK9.out.cell.1 1, HBK9.out.cell.1 2, HBK9.out.cell.1 3, HBK9.out.cell.1 4, HBK9.out.cell.1 5, HBK9.out.cell.1 6, HBK9.out.cell.1 7, HBK9.out.cell.1 8⟩, ?_⟩
    clear hK K
    refine ⟨by kernel_rfl, ?_⟩
    simp only [List.drop_succ_cons, List.drop_zero]
    refine wpList_plain rfl fun K hK => ?_
    go_simp
    apply hK
    go_wp2_with fail
    exact HQ.out _ (HB6.out.trans (HD9.out.mono HB6.out.size))
end Go.Proofs.YtlhmlbhpflgbpaaGreatDoor
