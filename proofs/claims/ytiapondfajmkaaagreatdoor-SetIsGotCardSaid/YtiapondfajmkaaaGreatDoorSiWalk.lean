/- SetIsGot: the law's walk. -/
import Derived.Test.YtiapondfajmkaaaGreatDoorSiState
import Derived.Test.YtiapondfajmkaaaGreatDoorSiSame
import Derived.Test.YtiapondfajmkaaaGreatDoorSiGet
import Derived.Test.YtiapondfajmkaaaGreatDoorSiName
import Derived.Test.YtiapondfajmkaaaGreatDoorSiLaw
namespace Go.Proofs.YtiapondfajmkaaaGreatDoor
open Go.RowKit

def TrueP (w : World) (e : Ending) (w' : World) : Prop := e = .returned (.bool true) ∧ Below w.heap.size w w'
set_option maxRecDepth 100000 in
set_option maxHeartbeats 3200000 in
theorem setgot_law (l : List ByteArray) (A : Option Addr) (n c : Nat) (o : Int) (name value : ByteArray) (w : World) (h : AL w (.slice A n c) l) (hn : l.length ≤ 4611686018427387903) (hx : name.size + value.size ≤ 1152921504606846976) :
    Calls Tryz.prog 3 #[.slice A n c, .int .i64 o, .string name, .string value] w (TrueP w) := by
  obtain ⟨Q, hQ⟩ : ∃ Q, TrueP w = Q := ⟨_, rfl⟩
  rw [hQ]
  have HQ := Lib.hid (fun w' (h : Below w.heap.size w w') => (show Q (.returned (.bool true)) w' from hQ ▸ ⟨rfl, h⟩))
  have HX := Lib.hid hx
  have HST := Lib.hid (fun W (hb : Below w.heap.size w W) => stateOf_any l A n c o W (h.keep hb) hn)
  clear hQ hx h hn
  unfold StateP at HST
  go_enter Tryz.func3, Tryz.ntmps3
  go_upto_region 3 with (go_at_call 4; refine (landed_any _).mono ?_; rintro e w0 ⟨rfl, hb0⟩)
  have HB0 := Lib.hid hb0
  clear hb0
  go_upto_region 4 with (go_at_call 5; refine (HST.out _ HB0.out).mono ?_; rintro e w1 ⟨S, ⟨⟨a1, a2, a3⟩, ⟨v1, v2, v3⟩⟩, f, rfl, hb1, hf⟩; have HB1 := Lib.hid (HB0.out.trans (hb1.mono HB0.out.size)); have HF := Lib.hid hf; clear hb1 hf; dsimp only [cellsS, sv])
  obtain ⟨x, hxx⟩ : ∃ x, x = w1.heap.size := ⟨_, rfl⟩
  obtain ⟨W3, hW3⟩ : ∃ W3, W3 = w1.alloc (.cells #[.string S.nm, .slice a1 a2 a3, .slice v1 v2 v3, .slice none 0 0, .slice none 0 0, .int .i64 S.op, .int .i64 S.st, .int .i64 S.msk, .string S.dr] 28) := ⟨_, rfl⟩
  have HB3 : Hid (Below w.heap.size w W3) := Lib.hid (by rw [hW3]; exact HB1.out.alloc HB1.out.size _)
  have HBK3 : Hid (Blk W3 x 28 #[.string S.nm, .slice a1 a2 a3, .slice v1 v2 v3, .slice none 0 0, .slice none 0 0, .int .i64 S.op, .int .i64 S.st, .int .i64 S.msk, .string S.dr]) := Lib.hid (by rw [hW3]; exact Blk.new w1 _ _ hxx.symm)
  have HK3 : Hid (Below w1.heap.size w1 W3) := Lib.hid (by rw [hW3]; exact (Below.refl _ w1).alloc (Nat.le_refl _) _)
  rw [← hxx, ← hW3]
  clear hW3 hxx HST
  cases f with
  | false =>
    clear HF
    go_wp2_with fail
    exact HQ.out _ HB3.out
  | true =>
    obtain ⟨hm, hdr, hpos, hfx, hsm, hok⟩ := HF.out rfl
    have HM3 := Lib.hid (hm.keep HK3.out)
    have HDR := Lib.hid hdr
    have HPOS := Lib.hid hpos
    have HFX := Lib.hid hfx
    have HSM := Lib.hid hsm
    have HOK := Lib.hid hok
    clear hm hdr hpos hfx hsm hok HF HK3 HB1 HB0
    have HG := Lib.hid (Get_any S ⟨(a1, a2, a3), (v1, v2, v3)⟩ name W3 HM3.out HSM.out HDR.out HOK.out)
    unfold GetP at HG
    have HSET : Hid (∀ W, Below W3.heap.size W3 W → Calls Tryz.prog 7 #[.agg #[.string S.nm, .slice a1 a2 a3, .slice v1 v2 v3, .slice none 0 0, .slice none 0 0, .int .i64 S.op, .int .i64 S.st, .int .i64 S.msk, .string S.dr], .string name, .string value] W (SetP S name value W)) := Lib.hid (fun W hb => Set_any S ⟨(a1, a2, a3), (v1, v2, v3)⟩ name value W (HM3.out.keep hb) HSM.out HDR.out HPOS.out HFX.out HX.out)
    unfold SetP at HSET
    obtain ⟨x0, x1, x2, x3, x4, x5, x6, x7, x8, xf⟩ := HBK3.out.nine
    -- the variable as it was
    obtain ⟨D, hD⟩ : ∃ D, D = getD S.vs name := ⟨_, rfl⟩
    obtain ⟨f, hf⟩ : ∃ f, f = hasV S.vs name := ⟨_, rfl⟩
    have HD := Lib.hid hD
    have HF := Lib.hid hf
    rw [← hD, ← hf] at HG
    rw [← hD] at HSET
    clear hD hf
    obtain ⟨dn, dv, di, dl, de, df⟩ := D
    go_upto_region 7 with (go_at_call 6; refine HG.out.mono ?_; rintro e w4 ⟨⟨s1, s2, s3⟩, rfl, hs4, hb4⟩; have HBK4 := Lib.hid (HBK3.out.keep hb4); have HB4 := Lib.hid (HB3.out.trans (hb4.mono HB3.out.size)); have HK4 := Lib.hid hb4; clear hb4 hs4; dsimp only [aggV, sv])
    obtain ⟨z, hz⟩ : ∃ z, z = w4.heap.size := ⟨_, rfl⟩
    obtain ⟨W5, hW5⟩ : ∃ W5, W5 = w4.alloc (.cells #[.string dn, .string dv, .bool di, .slice s1 s2 s3, .bool de, .bool df] 32) := ⟨_, rfl⟩
    have HB5 : Hid (Below w.heap.size w W5) := Lib.hid (by rw [hW5]; exact HB4.out.alloc HB4.out.size _)
    have HK5 : Hid (Below W3.heap.size W3 W5) := Lib.hid (by rw [hW5]; exact HK4.out.alloc HK4.out.size _)
    have HZ5 : Hid (Blk W5 z 32 #[.string dn, .string dv, .bool di, .slice s1 s2 s3, .bool de, .bool df]) := Lib.hid (by rw [hW5]; exact Blk.new w4 _ _ hz.symm)
    have HBK5 := Lib.hid (HBK3.out.keep HK5.out)
    rw [← hz, ← hW5]
    clear hz hW5 x0 x1 x2 x3 x4 x5 x6 x7 x8 xf HBK4 HB4 HK4 HG
    obtain ⟨x0, x1, x2, x3, x4, x5, x6, x7, x8, xf⟩ := HBK5.out.nine
    go_upto_region 8 with (go_at_call 7; refine (HSET.out _ HK5.out).mono ?_; rintro e w6 ⟨cc, S2, ⟨d1, d2, d3⟩, ⟨u1, u2, u3⟩, rfl, hb6, hc6, hk6⟩; have HB6 := Lib.hid (HB5.out.trans (hb6.mono HB5.out.size)); have HK6 := Lib.hid (HK5.out.trans (hb6.mono HK5.out.size)); have HZ6 := Lib.hid (HZ5.out.keep hb6); have HC6 := Lib.hid hc6; have HE6 := Lib.hid (hk6 HOK.out); clear hb6 hc6 hk6; dsimp only [cS, sv])
    obtain ⟨t, ht⟩ : ∃ t, t = w6.heap.size := ⟨_, rfl⟩
    obtain ⟨W7, hW7⟩ : ∃ W7, W7 = w6.alloc (.cells #[.string S2.nm, .slice d1 d2 d3, .slice u1 u2 u3, .slice none 0 0, .slice none 0 0, .int .i64 S2.op, .int .i64 S2.st, .int .i64 S2.msk, .string S2.dr] 28) := ⟨_, rfl⟩
    have HB7 : Hid (Below w.heap.size w W7) := Lib.hid (by rw [hW7]; exact HB6.out.alloc HB6.out.size _)
    have HK7 : Hid (Below W3.heap.size W3 W7) := Lib.hid (by rw [hW7]; exact HK6.out.alloc HK6.out.size _)
    have HKK7 : Hid (Below w6.heap.size w6 W7) := Lib.hid (by rw [hW7]; exact (Below.refl _ w6).alloc (Nat.le_refl _) _)
    have HZ7 := Lib.hid (HZ6.out.keep HKK7.out)
    have HT7 : Hid (Blk W7 t 28 #[.string S2.nm, .slice d1 d2 d3, .slice u1 u2 u3, .slice none 0 0, .slice none 0 0, .int .i64 S2.op, .int .i64 S2.st, .int .i64 S2.msk, .string S2.dr]) := Lib.hid (by rw [hW7]; exact Blk.new w6 _ _ ht.symm)
    have HBK7 := Lib.hid (HBK3.out.keep HK7.out)
    rw [← ht, ← hW7]
    clear ht hW7 x0 x1 x2 x3 x4 x5 x6 x7 x8 xf HBK5 HB6 HK6 HZ6 HZ5 HB5 HK5 HSET HBK3 HB3
    by_cases hnm : nameOK name
    case neg =>
      obtain rfl : cc = 6 := HE6.out.1.2 hnm
      obtain rfl : f = false := by rw [HF.out]; exact hasV_name HOK.out hnm
      have HNO := Lib.hid hnm
      clear HC6 HE6 hnm
      go_wp2_with (go_at_call 8; refine (rName_any _ _).mono ?_; rintro e w8 ⟨ff, rfl, hff, rfl⟩; obtain rfl : ff = false := (by cases ff with | false => rfl | true => exact absurd (hff.1 rfl) HNO.out); clear hff)
      exact HQ.out _ HB7.out
    have h6 : ¬ cc = 6 := fun e => (HE6.out.1.1 e) hnm
    have HNO := Lib.hid hnm
    clear hnm
    have HIX : Hid (∀ W, Calls Tryz.prog 9 #[.string value, .int .u8 0] W fun e w' => e = .returned (.int .i64 (Lib.indexByte value.data.toList 0)) ∧ W = w') := Lib.hid (fun W => (Tryz.strings_IndexByte value 0 W).mono fun _ _ h => ⟨h.1, h.2.symm⟩)
    have HIZ : Hid ((0 ≤ Lib.indexByte value.data.toList 0) ↔ ¬ noZ value) := Lib.hid ⟨fun h k => k h, fun h => Classical.not_not.1 h⟩
    generalize Lib.indexByte value.data.toList 0 = ix at HIX HIZ
    by_cases hz : 0 ≤ ix
    case pos =>
      obtain rfl : cc = 5 := HE6.out.2.1.2 ⟨HNO.out, HIZ.out.1 hz⟩
      clear HC6 HE6
      have hz2 : ix ≥ 0 := hz
      go_wp2_with first
        | (go_at_call 8; refine (rName_any _ _).mono ?_; rintro e w8 ⟨ff, rfl, hff, rfl⟩; obtain rfl : ff = true := hff.2 HNO.out; clear hff)
        | (go_at_call 9; refine (HIX.out _).mono ?_; rintro e w9 ⟨rfl, rfl⟩)
      exact HQ.out _ HB7.out
    have hz2 : ¬ ix ≥ 0 := hz
    have hNZ : noZ value := Classical.not_not.1 fun k => hz (HIZ.out.2 k)
    have h5 : ¬ cc = 5 := fun e => (HE6.out.2.1.1 e).2 hNZ
    by_cases h0 : cc = 0
    case neg =>
      obtain rfl : cc = 2 := by
        rcases HE6.out.2.2 with e | e | e | e
        · exact absurd e h0
        · exact e
        · exact absurd e h5
        · exact absurd e h6
      clear HC6 HE6
      go_wp2_with first
        | (go_at_call 8; refine (rName_any _ _).mono ?_; rintro e w8 ⟨ff, rfl, hff, rfl⟩; obtain rfl : ff = true := hff.2 HNO.out; clear hff)
        | (go_at_call 9; refine (HIX.out _).mono ?_; rintro e w9 ⟨rfl, rfl⟩)
      exact HQ.out _ HB7.out
    subst h0
    obtain ⟨hS2, _, _, hok2, hm2, _⟩ := HC6.out rfl
    have HM7 := Lib.hid (hm2.keep HKK7.out)
    have HOK2 := Lib.hid hok2
    have HS2 := Lib.hid hS2
    have HSM2 : Hid (Small S2) := Lib.hid (Small.of_ok hok2 (fun v hv => by
      rw [hS2] at hv
      rcases mem_setV hv with rfl | hv
      · exact Nat.zero_le _
      · exact HSM.out.ls v hv))
    have HDR2 : Hid (S2.dr = ⟨#[47]⟩) := Lib.hid (by rw [hS2]; exact HDR.out)
    have HVS2 : Hid (S2.vs = setV S.vs (plainV name value (de || outB S.op))) := Lib.hid (by rw [hS2]; rfl)
    clear hS2 hok2 hm2 HC6 HE6 h6 h5 hNZ HKK7
    have HG2 : Hid (∀ t' W, Below W7.heap.size W7 W → Calls Tryz.prog 6 #[.agg #[.string S2.nm, .slice d1 d2 d3, .slice u1 u2 u3, .slice none 0 0, .slice none 0 0, .int .i64 S2.op, .int .i64 S2.st, .int .i64 S2.msk, .string S2.dr], .string t'] W (GetP S2.vs t' W)) := Lib.hid (fun t' W hb => Get_any S2 ⟨(d1, d2, d3), (u1, u2, u3)⟩ t' W (HM7.out.keep hb) HSM2.out HDR2.out HOK2.out)
    have HCK2 : Hid (∀ W, Below W7.heap.size W7 W → Calls Tryz.prog 10 #[.agg #[.string S2.nm, .slice d1 d2 d3, .slice u1 u2 u3, .slice none 0 0, .slice none 0 0, .int .i64 S2.op, .int .i64 S2.st, .int .i64 S2.msk, .string S2.dr]] W (CheckP S2 W)) := Lib.hid (fun W hb => check_any S2 ⟨(d1, d2, d3), (u1, u2, u3)⟩ W (HM7.out.keep hb) HSM2.out HDR2.out)
    obtain ⟨hg1, hg2⟩ := getD_put HOK.out.rises (plainV name value (de || outB S.op))
    have HGN := Lib.hid (HG2.out name W7 (Below.refl _ _))
    unfold GetP at HGN HG2
    rw [HVS2.out, show getD (setV S.vs (plainV name value (de || outB S.op))) name = plainV name value (de || outB S.op) from hg1, show hasV (setV S.vs (plainV name value (de || outB S.op))) name = true from hg2] at HGN
    clear hg1 hg2
    unfold CheckP at HCK2
    obtain ⟨t0, t1, t2, t3, t4, t5, t6, t7, t8, tf⟩ := HT7.out.nine
    go_upto_region 15 with first
      | (go_at_call 8; refine (rName_any _ _).mono ?_; rintro e W7 ⟨ff, rfl, hff, rfl⟩; obtain rfl : ff = true := hff.2 HNO.out; clear hff)
      | (go_at_call 9; refine (HIX.out _).mono ?_; rintro e w9 ⟨rfl, rfl⟩)
      | (go_at_call 6; refine HGN.out.mono ?_; rintro e w8 ⟨⟨q1, q2, q3⟩, rfl, hq8, hb8⟩; have HK8 := Lib.hid hb8; clear hb8 hq8; dsimp only [aggV, sv, plainV])
    obtain ⟨r, hr⟩ : ∃ r, r = w8.heap.size := ⟨_, rfl⟩
    obtain ⟨W9, hW9⟩ : ∃ W9, W9 = w8.alloc (.cells #[.string name, .string value, .bool false, .slice q1 q2 q3, .bool (de || outB S.op), .bool false] 32) := ⟨_, rfl⟩
    have HK9 : Hid (Below W7.heap.size W7 W9) := Lib.hid (by rw [hW9]; exact HK8.out.alloc HK8.out.size _)
    have HR9 : Hid (Blk W9 r 32 #[.string name, .string value, .bool false, .slice q1 q2 q3, .bool (de || outB S.op), .bool false]) := Lib.hid (by rw [hW9]; exact Blk.new w8 _ _ hr.symm)
    have HZ9 := Lib.hid (HZ7.out.keep HK9.out)
    have HT9 := Lib.hid (HT7.out.keep HK9.out)
    have HBK9 := Lib.hid (HBK7.out.keep HK9.out)
    rw [← hr, ← hW9]
    clear hr hW9 t0 t1 t2 t3 t4 t5 t6 t7 t8 tf HK8 HGN HIX HIZ hz hz2
    have HV2 : Hid (v2 = S.vs.length) := Lib.hid (VL.at HM3.out.vs).1
    have HU2 : Hid (u2 = if f = true then v2 else v2 + 1) := Lib.hid (by
      have h1 : u2 = S2.vs.length := (VL.at HM7.out.vs).1
      have h2 := setV_length S.vs (plainV name value (de || outB S.op))
      rw [← HVS2.out, ← h1, show (plainV name value (de || outB S.op)).nm = name from rfl, ← HF.out, ← HV2.out] at h2
      exact h2)
    have hob : (bits BinOp.and IntKind.i64 S.op 16 != 0) = outB S.op := rfl
    generalize outB S.op = ob at *
    obtain ⟨x0, x1, x2, x3, x4, x5, x6, x7, x8, xf⟩ := HBK9.out.nine
    obtain ⟨t0, t1, t2, t3, t4, t5, t6, t7, t8, tf⟩ := HT9.out.nine
    obtain ⟨z0, z1, z2, z3, z4, z5, zf⟩ := HZ9.out.six
    obtain ⟨r0, r1, r2, r3, r4, r5, rf⟩ := HR9.out.six
    have hvv : (value.toList == value.toList) = true := beq_self_eq_true _
    go_cut [105] (fun s105 wx => s105 = .bool false ∧ Hid (Below W7.heap.size W7 wx))
    case first =>
      cases de <;> cases ob
      all_goals
        go_wp2_with (go_at_call 10; refine (HCK2.out _ HK9.out).mono ?_; rintro e w10 ⟨cz, rfl, hcz, hb⟩; obtain rfl : cz = 0 := hcz.2 HOK2.out; have HB10 := Lib.hid (HK9.out.trans (hb.mono HK9.out.size)); clear hcz hb)
        go_meet
        exact ⟨rfl, HB10⟩
    case rest =>
      obtain ⟨rfl, HKC⟩ := hcut
      clear x0 x1 x2 x3 x4 x5 x6 x7 x8 xf t0 t1 t2 t3 t4 t5 t6 t7 t8 tf z0 z1 z2 z3 z4 z5 zf r0 r1 r2 r3 r4 r5 rf hvv hob HZ9 HT9 HR9 HBK9 HK9 HCK2 HZ7
      have HBKC := Lib.hid (HBK7.out.keep HKC.out)
      obtain ⟨x0, x1, x2, x3, x4, x5, x6, x7, x8, xf⟩ := HBKC.out.nine
      have HVL := Lib.hid (fun W (hb : Below W7.heap.size W7 W) => (HM3.out.keep (HK7.out.trans (hb.mono HK7.out.size))).vs)
      have HNB : Hid (v2 ≤ 2000) := Lib.hid (by have := HSM.out.vs; have := HV2.out; omega)
      have HTL : Hid (∀ W, Below W7.heap.size W7 W → Blk W t 28 #[.string S2.nm, .slice d1 d2 d3, .slice u1 u2 u3, .slice none 0 0, .slice none 0 0, .int .i64 S2.op, .int .i64 S2.st, .int .i64 S2.msk, .string S2.dr]) := Lib.hid (fun W hb => HT7.out.keep hb)
      have HXL : Hid (∀ W, Below W7.heap.size W7 W → Blk W x 28 #[.string S.nm, .slice a1 a2 a3, .slice v1 v2 v3, .slice none 0 0, .slice none 0 0, .int .i64 S.op, .int .i64 S.st, .int .i64 S.msk, .string S.dr]) := Lib.hid (fun W hb => HBK7.out.keep hb)
      clear HBK7 HT7 HBKC
      go_wp2_with fail
      go_loopw [109] (fun i wr => ∃ k : Nat, k ≤ v2 ∧ i = .int .i64 k ∧ Hid (Below W7.heap.size W7 wr)) (fun i _ => v2 - (intOf i).toNat)
      case atStart => exact ⟨0, Nat.zero_le _, rfl, HKC⟩
      case round =>
        clear x0 x1 x2 x3 x4 x5 x6 x7 x8 xf HKC
        obtain ⟨k, hk, rfl, HKR⟩ := hrel
        by_cases hlt : k < v2
        · have hkS : k < S.vs.length := by have := HV2.out; omega
          have hat := (VL.at (HVL.out wr HKR.out)).2.2.2
          obtain ⟨b, off, ⟨s1', s2', s3'⟩, rfl, hbl, hsl, c0, c1, c2, c3, c4, c5⟩ := hat k hkS
          have HMEM : Hid (S.vs[k] ∈ S.vs) := Lib.hid (List.getElem_mem hkS)
          clear hat
          generalize S.vs[k] = xv at *
          have HSL := Lib.hid hsl
          have HLS : Hid (xv.ls.length ≤ 2000) := Lib.hid (HSM.out.ls xv HMEM.out)
          have HOLD : Hid (xv.nm ≠ name → getD S2.vs xv.nm = xv ∧ hasV S2.vs xv.nm = true) := Lib.hid (fun hne => by
            rw [HVS2.out]
            exact getD_old HOK.out.rises HMEM.out hne)
          clear hsl
          have k0 : 0 ≤ (k : Int) := by omega
          have hltz : (k : Int) < (v2 : Int) := by omega
          have hk1 : IntKind.i64.wrap ((k : Int) + 1) = ((k + 1 : Nat) : Int) := IntWalk.i64_in _ (by have := HNB.out; omega)
          obtain ⟨xn, xvl, xil, xls, xex, xfx⟩ := xv
          dsimp only [sv] at c0 c1 c2 c3 c4 c5 HSL HOLD HLS
          go_upto_region 20 with fail
          obtain ⟨m, hm⟩ : ∃ m, m = wr.heap.size := ⟨_, rfl⟩
          obtain ⟨Wa, hWa⟩ : ∃ Wa, Wa = wr.alloc (.cells #[.string xn, .string xvl, .bool xil, .slice s1' s2' s3', .bool xex, .bool xfx] 32) := ⟨_, rfl⟩
          have HKa : Hid (Below W7.heap.size W7 Wa) := Lib.hid (by rw [hWa]; exact HKR.out.alloc HKR.out.size _)
          have HMa : Hid (Blk Wa m 32 #[.string xn, .string xvl, .bool xil, .slice s1' s2' s3', .bool xex, .bool xfx]) := Lib.hid (by rw [hWa]; exact Blk.new wr _ _ hm.symm)
          have HSa : Hid (SL Wa (.slice s1' s2' s3') xls) := Lib.hid (by rw [hWa]; exact HSL.out.keep ((Below.refl _ wr).alloc (Nat.le_refl _) _))
          rw [← hm, ← hWa]
          clear hm hWa c0 c1 c2 c3 c4 c5 HSL hbl
          obtain ⟨t0, t1, t2, t3, t4, t5, t6, t7, t8, tf⟩ := (HTL.out Wa HKa.out).nine
          obtain ⟨m0, m1, m2, m3, m4, m5, mf⟩ := HMa.out.six
          have HGX := Lib.hid (HG2.out xn Wa HKa.out)
          generalize hD2 : getD S2.vs xn = D2 at HGX HOLD
          generalize hasV S2.vs xn = f2 at HGX HOLD
          obtain ⟨gn, gv, gi, gl, ge, gf⟩ := D2
          clear hD2
          go_upto_region 21 with (go_at_call 6; refine HGX.out.mono ?_; rintro e w10 ⟨⟨p1, p2, p3⟩, rfl, hp10, hb10⟩; have HKb := Lib.hid (HKa.out.trans (hb10.mono HKa.out.size)); have HMb := Lib.hid (HMa.out.keep hb10); have HSb := Lib.hid (HSa.out.keep hb10); have HPb := Lib.hid hp10; clear hp10 hb10; dsimp only [aggV, sv])
          obtain ⟨q, hq⟩ : ∃ q, q = w10.heap.size := ⟨_, rfl⟩
          obtain ⟨Wb, hWb⟩ : ∃ Wb, Wb = w10.alloc (.cells #[.string gn, .string gv, .bool gi, .slice p1 p2 p3, .bool ge, .bool gf] 32) := ⟨_, rfl⟩
          have HK' : Hid (Below W7.heap.size W7 Wb) := Lib.hid (by rw [hWb]; exact HKb.out.alloc HKb.out.size _)
          have HM' : Hid (Blk Wb m 32 #[.string xn, .string xvl, .bool xil, .slice s1' s2' s3', .bool xex, .bool xfx]) := Lib.hid (by rw [hWb]; exact HMb.out.alloc _)
          have HQ' : Hid (Blk Wb q 32 #[.string gn, .string gv, .bool gi, .slice p1 p2 p3, .bool ge, .bool gf]) := Lib.hid (by rw [hWb]; exact Blk.new w10 _ _ hq.symm)
          have HS' : Hid (SL Wb (.slice s1' s2' s3') xls) := Lib.hid (by rw [hWb]; exact HSb.out.keep ((Below.refl _ w10).alloc (Nat.le_refl _) _))
          have HP' : Hid (SL Wb (.slice p1 p2 p3) gl) := Lib.hid (by rw [hWb]; exact HPb.out.keep ((Below.refl _ w10).alloc (Nat.le_refl _) _))
          rw [← hq, ← hWb]
          clear hq hWb t0 t1 t2 t3 t4 t5 t6 t7 t8 tf m0 m1 m2 m3 m4 m5 mf HGX HKa HMa HSa HKb HMb HSb HPb
          obtain ⟨m0, m1, m2, m3, m4, m5, mf⟩ := HM'.out.six
          obtain ⟨g0, g1, g2, g3, g4, g5, gff⟩ := HQ'.out.six
          by_cases hne : xn = name
          · have hbb : (xn.toList == name.toList) = true := by rw [hne]; exact beq_self_eq_true _
            go_wp2_with fail
            exact ⟨⟨k + 1, by omega, by simp, HK'⟩, by simp [intOf]; omega⟩
          · have hbb : (xn.toList == name.toList) = false := by
              cases hh : (xn.toList == name.toList) with
              | false => rfl
              | true => exact absurd ((Lib.bytes_beq_iff _ _).1 hh) hne
            obtain ⟨ho1, ho2⟩ := HOLD.out hne
            injection ho1 with e1 e2 e3 e4 e5 e6
            subst e1 e2 e3 e4 e5 e6 ho2
            have HSAME : Hid (Calls Tryz.prog 11 #[.iface 32 (.agg #[.string gn, .string gv, .bool gi, .slice s1' s2' s3', .bool ge, .bool gf]), .iface 32 (.agg #[.string gn, .string gv, .bool gi, .slice p1 p2 p3, .bool ge, .bool gf])] Wb fun e w' => e = .returned (.bool true) ∧ Below Wb.heap.size Wb w') := Lib.hid (same_same ⟨gn, gv, gi, gl, ge, gf⟩ (s1', s2', s3') (p1, p2, p3) Wb HS'.out HP'.out HLS.out)
            clear hne HOLD
            go_wp2_with (go_at_call 11; refine HSAME.out.mono ?_; rintro e w11 ⟨rfl, hb11⟩; have HK11 := Lib.hid (HK'.out.trans (hb11.mono HK'.out.size)); clear hb11)
            exact ⟨⟨k + 1, by omega, by simp, HK11⟩, by simp [intOf]; omega⟩
        · obtain ⟨x0, x1, x2, x3, x4, x5, x6, x7, x8, xf⟩ := (HXL.out wr HKR.out).nine
          obtain ⟨t0, t1, t2, t3, t4, t5, t6, t7, t8, tf⟩ := (HTL.out wr HKR.out).nine
          have hk : k = v2 := by omega
          subst hk
          have hw1 : IntKind.i64.wrap ((k : Int) + 1) = ((k + 1 : Nat) : Int) := IntWalk.i64_in _ (by have := HNB.out; omega)
          have HRB := Lib.hid (HB7.out.trans (HKR.out.mono HB7.out.size))
          cases f with
          | true =>
            have hu : u2 = k := by have := HU2.out; simpa using this
            subst hu
            have huu : ((u2 : Int) == (u2 : Int)) = true := beq_self_eq_true _
            go_wp2_with fail
            exact HQ.out _ HRB.out
          | false =>
            have hu : u2 = k + 1 := by have := HU2.out; simpa using this
            subst hu
            have huu : (((k + 1 : Nat) : Int) == ((k + 1 : Nat) : Int)) = true := beq_self_eq_true _
            go_wp2_with fail
            exact HQ.out _ HRB.out
end Go.Proofs.YtiapondfajmkaaaGreatDoor
