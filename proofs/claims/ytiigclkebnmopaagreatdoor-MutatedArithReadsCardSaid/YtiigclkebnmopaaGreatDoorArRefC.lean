/- Arithmetic expressions: the reference's table of levels; whether a sign is in a row. -/
import Derived.Test.YtiigclkebnmopaaGreatDoorArRefB
namespace Go.Proofs.YtiigclkebnmopaaGreatDoor
open Go.RowKit Go.Shelf

def rlev (n : Nat) : List (List UInt8) := ((#[[[124, 124]], [[38, 38]], [[124]], [[94]], [[38]], [[61, 61], [33, 61]], [[60], [60, 61], [62], [62, 61]], [[60, 60], [62, 62]], [[43], [45]], [[42], [47], [37]]] : Array (List (List UInt8)))[n]?).getD []
theorem rlev_mem (n : Nat) (s : List UInt8) : s ∈ rlev n ↔ s ∈ levels n := by
  by_cases h : n < 10
  · have : n = 0 ∨ n = 1 ∨ n = 2 ∨ n = 3 ∨ n = 4 ∨ n = 5 ∨ n = 6 ∨ n = 7 ∨ n = 8 ∨ n = 9 := by omega
    rcases this with rfl | rfl | rfl | rfl | rfl | rfl | rfl | rfl | rfl | rfl
    all_goals first | exact Iff.rfl | skip
    simp only [rlev, levels]
    simp
    constructor
    · rintro (h | h | h | h) <;> simp [h]
    · rintro (h | h | h | h) <;> simp [h]
  · unfold rlev levels
    rw [Array.getElem?_eq_none (by simp; omega), Array.getElem?_eq_none (by simp; omega)]
def rlevV (h j : Nat) : Value := .slice (some ⟨h + j, 0, none⟩) (rlev j).length (rlev j).length
/-- the table of operators -/
def RLevGives (w : World) (e : Ending) (w' : World) : Prop :=
  e = .returned (.slice (some ⟨w.heap.size + 10, 0, none⟩) 10 10) ∧ Below w.heap.size w w' ∧ w.heap.size + 11 ≤ w'.heap.size ∧ (∀ j < 10, TX w' (w.heap.size + j) 0 (rlev j)) ∧ ∀ j < 10, w'.cell? ⟨w.heap.size + 10, j, none⟩ = some (rlevV w.heap.size j)
def RLS (w : World) (j : Nat) (W : World) : Prop := W.heap.size = w.heap.size + j ∧ Below w.heap.size w W ∧ ∀ i < j, TX W (w.heap.size + i) 0 (rlev i)
theorem rlev_step {w W : World} {j : Nat} (h : RLS w j W) (cs : Array Value) (t : TypeId) (hc : cs = ((rlev j).map fun s => Value.string (toB s)).toArray) : RLS w (j + 1) (W.alloc (.cells cs t)) := by
  obtain ⟨hs, hb, ht⟩ := h
  have ba := (Below.refl W.heap.size W).alloc (Nat.le_refl _) (.cells cs t)
  refine ⟨by simp [hs]; omega, hb.alloc (by omega) _, fun i hi => ?_⟩
  by_cases hij : i = j
  · subst hij
    rw [← hs]
    exact TX.new W cs t _ hc
  · exact (ht i (by omega)).keep ba (by omega)
theorem rlev_end {w W : World} (h : RLS w 10 W) (cs : Array Value) (t : TypeId) (hc : ∀ j < 10, cs[j]? = some (rlevV w.heap.size j)) : RLevGives w (.returned (.slice (some ⟨w.heap.size + 10, 0, none⟩) 10 10)) (W.alloc (.cells cs t)) := by
  obtain ⟨hs, hb, ht⟩ := h
  have ba := (Below.refl W.heap.size W).alloc (Nat.le_refl _) (.cells cs t)
  refine ⟨rfl, hb.alloc (by omega) _, by simp [hs], fun i hi => (ht i hi).keep ba (by omega), fun j hj => ?_⟩
  rw [← hs, box_cell]
  exact hc j hj
set_option maxRecDepth 100000 in
set_option maxHeartbeats 3200000 in
theorem rlevels_any (w : World) : Calls Tryz.prog 199 #[] w (RLevGives w) := by
  obtain ⟨Q, hQ⟩ : ∃ Q, RLevGives w = Q := ⟨_, rfl⟩
  rw [hQ]
  have HQ := Lib.hid hQ
  clear hQ
  go_enter Tryz.func199, Tryz.ntmps199
  go_wp2_with fail
  rw [← HQ.out]
  refine rlev_end ?_ _ _ ?_
  · iterate 10 refine rlev_step ?_ _ _ (by simp [rlev, toB])
    exact ⟨by simp, Below.refl _ w, fun i hi => absurd hi (Nat.not_lt_zero i)⟩
  · intro j hj
    match j, hj with
    | 0, _ => rfl
    | 1, _ => rfl
    | 2, _ => rfl
    | 3, _ => rfl
    | 4, _ => rfl
    | 5, _ => rfl
    | 6, _ => rfl
    | 7, _ => rfl
    | 8, _ => rfl
    | 9, _ => rfl

theorem toB_inj {a b : List UInt8} (h : toB a = toB b) : a = b := by
  have := congrArg ByteArray.data h
  simpa [toB] using this
/-- whether a text is in a row -/
theorem rcont_any (g off c : Nat) (L : List (List UInt8)) (s : List UInt8) (w : World) (hL : TX w g off L) (hl : L.length ≤ 100) :
    Calls Tryz.prog 80 #[.slice (some ⟨g, off, none⟩) L.length c, .string (toB s)] w fun e w' => e = .returned (.bool (decide (s ∈ L))) ∧ w' = w := by
  refine (Tryz.slices_Contains_string g off L.length c (L.map toB) (toB s) w (by simp) (by omega) (fun j hj => ?_)).mono ?_
  · rw [List.length_map] at hj
    rw [hL j hj]
    simp [List.getD, hj]
  · rintro e w' ⟨rfl, rfl⟩
    refine ⟨?_, rfl⟩
    rw [show (L.map toB).take L.length = L.map toB from List.take_of_length_le (by simp)]
    rw [show Lib.containsS (L.map toB) (toB s) = decide (s ∈ L) from by
      rw [Bool.eq_iff_iff, Lib.containsS_iff]
      simp only [List.mem_map, decide_eq_true_eq]
      constructor
      · rintro ⟨a, ha, he⟩
        rwa [← toB_inj he]
      · intro h
        exact ⟨s, h, rfl⟩]

end Go.Proofs.YtiigclkebnmopaaGreatDoor

namespace Go.Proofs.YtiigclkebnmopaaGreatDoor
open Go.RowKit Go.Shelf

theorem parseR_lev (f lv : Nat) (l : List UInt8) : parseR (f + 1) (.lev lv) l = if lv = 10 then parseR f .pre l else (parseR f (.lev (lv + 1)) l).bind fun x l1 => parseR f (.levL lv x) l1 := rfl
theorem parseR_levL (lv f : Nat) (x : Ex) (l : List UInt8) : parseR (f + 1) (.levL lv x) l = if sg l ∈ levels lv then (parseR f (.lev (lv + 1)) (aft (sg l) l)).bind fun y l1 => parseR f (.levL lv (bx (sg l) [x, y])) l1 else .ok x (gap l) := rfl
/-- the table lies there -/
structure RTab (lv h g b : Nat) (W : World) : Prop where
  row : W.cell? ⟨g, lv, none⟩ = some (rlevV h lv)
  txt : TX W (h + lv) 0 (rlev lv)
  lt : h + lv < W.heap.size ∧ g < W.heap.size
  ne : h + lv ≠ b ∧ g ≠ b
theorem RTab.only {lv h g b : Nat} {W W' : World} (k : RTab lv h g b W) (ho : Only b W W') : RTab lv h g b W' :=
  ⟨(World.cell?_of_block (a := ⟨g, lv, none⟩) (ho.block g k.lt.2 k.ne.2)).trans k.row, fun j hj => (World.cell?_of_block (a := ⟨h + lv, 0 + j, none⟩) (ho.block _ k.lt.1 k.ne.1)).trans (k.txt j hj), ⟨Nat.lt_of_lt_of_le k.lt.1 ho.size, Nat.lt_of_lt_of_le k.lt.2 ho.size⟩, k.ne⟩
theorem RTab.stored {lv h g b gx : Nat} {W : World} (k : RTab lv h g b W) (h1 : h + lv ≠ gx) (h2 : g ≠ gx) (v0 v1 v2 v3 : Value) (o : Obj) : RTab lv h g b ((set4 W gx v0 v1 v2 v3).alloc o) := by
  have O := Only.set4 W gx v0 v1 v2 v3
  have k2 : RTab lv h g b (set4 W gx v0 v1 v2 v3) := ⟨(World.cell?_of_block (a := ⟨g, lv, none⟩) (O.block g k.lt.2 h2)).trans k.row, fun j hj => (World.cell?_of_block (a := ⟨h + lv, 0 + j, none⟩) (O.block _ k.lt.1 h1)).trans (k.txt j hj), ⟨Nat.lt_of_lt_of_le k.lt.1 O.size, Nat.lt_of_lt_of_le k.lt.2 O.size⟩, k.ne⟩
  exact k2.only (Only.of ((Below.refl _ _).alloc (Nat.le_refl _) _) (Nat.le_refl _))
theorem sg_in {l : List UInt8} {lv : Nat} (h : sg l ∈ rlev lv) : sg l ∈ levels lv ∧ sg l ≠ [] := ⟨(rlev_mem _ _).1 h, fun e => levels_ne lv (e ▸ (rlev_mem _ _).1 h)⟩
theorem rlev_len (n : Nat) : (rlev n).length ≤ 100 := by
  by_cases h : n < 10
  · have : n = 0 ∨ n = 1 ∨ n = 2 ∨ n = 3 ∨ n = 4 ∨ n = 5 ∨ n = 6 ∨ n = 7 ∨ n = 8 ∨ n = 9 := by omega
    rcases this with rfl | rfl | rfl | rfl | rfl | rfl | rfl | rfl | rfl | rfl <;> decide
  · unfold rlev
    rw [Array.getElem?_eq_none (by simp; omega)]
    simp
set_option maxRecDepth 100000 in
set_option maxHeartbeats 6400000 in
theorem rbinary_any (f b lv : Nat) (T : List UInt8) (hlv : lv ≤ 10) (hP : RCtr 200 .pre f b T) (hL : lv < 10 → ∀ f', f' ≤ f → RCtrL (lv + 1) f' b T) : RCtrL lv (f + 1) b T := by
  intro l w h hm hn
  have HX0 := Lib.hid (RSX.start h)
  have HPk := Lib.hid (fun l' W hW => apeek_any b T l' W hW)
  have HGt := Lib.hid (fun l' s W hW hs hz => rgot_any b T l' s W hW hs hz)
  have HPr := Lib.hid (hP.at hm)
  have HLv := Lib.hid hL
  have HM := Lib.hid hm
  have HNn := Lib.hid hn
  have hlt := h.lt
  obtain ⟨o, ho⟩ : ∃ o, parseR (f + 1) (.lev lv) l = o := ⟨_, rfl⟩
  have HO := Lib.hid ho
  obtain ⟨Q, hQ⟩ : ∃ Q, RPG b T o w = Q := ⟨_, rfl⟩
  rw [ho, hQ]
  rw [ho] at HNn
  have HQ := Lib.hid hQ
  clear hQ h hn hP hL ho hm
  go_enter Tryz.func159, Tryz.ntmps159
  go_wp2_with fail
  have hs1 : (w.alloc (.cells #[.string ⟨#[]⟩, .int .i64 0, .string ⟨#[]⟩, .slice none 0 0] 25)).heap.size = w.heap.size + 1 := by simp
  generalize w.alloc (.cells #[.string ⟨#[]⟩, .int .i64 0, .string ⟨#[]⟩, .slice none 0 0] 25) = w1 at *
  refine (rlevels_any w1).mono ?_
  rintro e w2 ⟨rfl, hb2, hs2, ht2, hr2⟩
  have HX2 := Lib.hid (HX0.out.below hb2)
  have hwb := HX0.out.ne
  have HTab : Hid (lv < 10 → RTab lv w1.heap.size (w1.heap.size + 10) b w2) := Lib.hid (fun h => ⟨hr2 lv h, ht2 lv h, by omega, by omega⟩)
  clear hb2 ht2 hr2 HX0 hwb
  obtain ⟨bx, hbx⟩ : ∃ bx, w.heap.size = bx := ⟨_, rfl⟩
  rw [hbx] at HX2
  simp only [hbx]
  have hs2' : w1.heap.size + 11 ≤ w2.heap.size := hs2
  clear hbx hs2 hs1
  generalize w1.heap.size = hh at *
  by_cases h10 : lv = 10
  · subst h10
    have HO2 := Lib.hid (show parseR f .pre l = o from HO.out)
    clear HTab
    go_wp2_with fail
    refine (HPr.out l _ HX2.out.rd HX2.out.only (by rw [HO2.out]; exact HNn.out)).mono ?_
    intro e w3 hp
    rw [HO2.out] at hp
    rcases out_cases o with ⟨x, l1, rfl⟩ | hno
    · obtain ⟨v, rfl, hx, hr3, ho3⟩ := hp
      obtain ⟨n, A, k, c, nm, rfl, hnm⟩ := hx.form
      have HE := Lib.hid (HX2.out.givesV hr3 ho3 hx rfl)
      have HX3 := Lib.hid (HX2.out.step hr3 ho3)
      clear hx hr3 ho3 hnm
      obtain ⟨d0, d1, d2, d3, df⟩ := HX3.out.res.cells
      go_wp2_with fail
      obtain ⟨q0, q1, q2, q3, qf⟩ := HE.out.2.cells
      unfold set4 at q0 q1 q2 q3
      refine bodyPost_ret (v := .agg #[.string (toB x.op), .int .i64 (n : Int), .string (toB nm), .slice A k c]) (by simp [results, Tryz.results159, go_sem, q0, q1, q2, q3]) rfl ?_
      rw [← HQ.out]
      exact HE.out.1
    · obtain ⟨p, c, rfl, ho3, HF⟩ := RPG.fail hno hp
      have HO3 := Lib.hid (HX2.out.only.trans ho3)
      have HFF := Lib.hid HF
      clear hp hno ho3 HF
      unfold rpan
      go_wp2_with fail
      rw [← HQ.out]
      have h0 := HFF.out Out.ok _ HO3.out
      rw [bind_ok] at h0
      exact ⟨rfl, h0⟩
  · have hne : ((lv : Int) == 10) = false := by rw [beq_eq_false_iff_ne]; omega
    have hl9 : lv < 10 := by omega
    have HTab2 := Lib.hid (HTab.out hl9)
    have HLq := Lib.hid (HLv.out hl9)
    have e1 : IntKind.i64.wrap ((lv : Int) + 1) = (lv : Int) + 1 := IntWalk.i64_in _ (by omega)
    obtain ⟨o0, ho0⟩ : ∃ o0, parseR f (.lev (lv + 1)) l = o0 := ⟨_, rfl⟩
    have HO2 := Lib.hid (show o0.bind (fun x l1 => parseR f (.levL lv x) l1) = o by rw [← ho0]; exact (if_neg h10).symm.trans HO.out)
    have HL0 := Lib.hid (HLq.out f (Nat.le_refl _) l w2 HX2.out.rd (HM.out.only HX2.out.only) (by rw [ho0]; intro e; exact HNn.out (by rw [← HO2.out, e]; rfl)))
    rw [ho0, show ((lv + 1 : Nat) : Int) = (lv : Int) + 1 from by simp] at HL0
    clear HTab HLv h10 ho0 HO
    go_wp2_with fail
    refine HL0.out.mono ?_
    intro e w3 hp
    clear HL0
    rcases out_cases o0 with ⟨x, l1, rfl⟩ | hno
    · obtain ⟨v, rfl, hx, hr3, ho3⟩ := hp
      obtain ⟨n, A, k, c, nm, rfl, hnm⟩ := hx.form
      have HB := Lib.hid (HX2.out.box hr3 ho3 hx)
      have HTab3 := Lib.hid ((HTab2.out.only ho3).only (Only.of (b := b) ((Below.refl w3.heap.size w3).alloc (Nat.le_refl _) (.cells #[.string (toB x.op), .int .i64 (n : Int), .string (toB nm), .slice A k c] 25)) (Nat.le_refl _)))
      have HK := Lib.hid (show parseR f (.levL lv x) l1 = o from HO2.out)
      have hgx : hh + 11 ≤ w3.heap.size := Nat.le_trans hs2' ho3.size
      clear hx hr3 ho3 hnm HX2 HTab2
      go_wp2_with fail
      generalize w3.alloc (.cells #[.string (toB x.op), .int .i64 (n : Int), .string (toB nm), .slice A k c] 25) = w4 at *
      generalize w3.heap.size = gx at *
      go_loopw [] (fun wr => ∃ (f' : Nat) (x : Ex) (l' : List UInt8) (n : Int) (A : Option Addr) (k c : Nat) (nm : List UInt8), f' ≤ f ∧ Hid (parseR f' (.levL lv x) l' = o) ∧ Hid (RTab lv hh (hh + 10) b wr) ∧ Hid (RSB w b bx gx T l' (.string (toB x.op)) (.int .i64 (n : Int)) (.string (toB nm)) (.slice A k c) x wr)) (fun wr => T.length - posOf wr b)
      case atStart => exact ⟨f, x, l1, n, A, k, c, nm, Nat.le_refl _, HK, HTab3, HB⟩
      case round =>
        clear HB HK HTab3
        obtain ⟨f', x, l1, n, A, k, c, nm, hf', HK, HTab, HB⟩ := hrel
        go_wp2_with fail
        refine (HPk.out l1 _ HB.out.sx.rd).mono ?_
        rintro e w5 ⟨rfl, hr5, ho5⟩
        have HB5 := Lib.hid (HB.out.step hr5 ho5)
        have HTab5 := Lib.hid (HTab.out.only ho5)
        have HP1 := Lib.hid HB.out.sx.rd.pos
        clear hr5 ho5
        cases f' with
        | zero => exact absurd HK.out.symm (fun h => HNn.out h)
        | succ f' =>
          have HLp := Lib.hid ((parseR_levL lv f' x l1).symm.trans HK.out)
          obtain ⟨c0, c1, c2, c3, cf⟩ := HB5.out.four.cells
          obtain ⟨d0, d1, d2, d3, df⟩ := HB5.out.sx.res.cells
          have hlt5 := HB5.out.sx.lt
          have hsl : (toB (sg l1)).toList = sg l1 := by simp [toB, ByteArray.toList_eq]
          clear HB HK HTab
          by_cases hem : sg l1 = []
          · have he : (toB (sg l1)).toList.isEmpty = true := by rw [hsl, hem]; rfl
            have HO5 := Lib.hid ((if_neg (fun h => levels_ne lv (hem ▸ h))).symm.trans HLp.out)
            have HE := Lib.hid (HB5.out.gives HO5.out.symm)
            clear hem hsl
            go_wp2_with fail
            obtain ⟨q0, q1, q2, q3, qf⟩ := HE.out.2.cells
            unfold set4 at q0 q1 q2 q3
            refine bodyPost_ret (v := .agg #[.string (toB x.op), .int .i64 (n : Int), .string (toB nm), .slice A k c]) (by simp [results, Tryz.results159, go_sem, q0, q1, q2, q3]) rfl ?_
            rw [← HQ.out]
            exact HE.out.1
          · have he : (toB (sg l1)).toList.isEmpty = false := by
              rw [hsl]
              cases h : sg l1 with
              | nil => exact absurd h hem
              | cons _ _ => rfl
            have HTk := Lib.hid (sg_take hem)
            have hlen4 := aft_len hem
            have crow := HTab5.out.row
            have HC := Lib.hid (rcont_any (hh + lv) 0 (rlev lv).length (rlev lv) (sg l1) w5 HTab5.out.txt (rlev_len lv))
            unfold rlevV at crow
            clear hem hsl
            go_wp2_with fail
            refine HC.out.mono ?_
            rintro e w6 ⟨rfl, hw6⟩
            subst hw6
            by_cases hin : sg l1 ∈ rlev lv
            · have HLr := Lib.hid ((if_pos (sg_in hin).1).symm.trans HLp.out)
              obtain ⟨sq, hsq⟩ : ∃ sq, sg l1 = sq := ⟨_, rfl⟩
              rw [show decide (sg l1 ∈ rlev lv) = true from by simpa using hin]
              rw [hsq] at HLr HTk hlen4
              simp only [hsq]
              clear hin hsq HC crow HLp he
              go_wp2_with fail
              refine (HGt.out (gap l1) sq _ HB5.out.sx.rd HTk.out.2.2 HTk.out.2.1).mono ?_
              rintro e w7 ⟨rfl, hr7, ho7⟩
              rw [HTk.out.1] at hr7 ⊢
              have HB7 := Lib.hid (HB5.out.step hr7 ho7)
              rw [show (some (aft sq l1)).getD (gap l1) = aft sq l1 from rfl] at HB7
              have HTab7 := Lib.hid (HTab5.out.only ho7)
              clear hr7 ho7 HB5 HTab5 c0 c1 c2 c3 cf d0 d1 d2 d3 df
              obtain ⟨o1, ho1⟩ : ∃ o1, parseR f' (.lev (lv + 1)) (aft sq l1) = o1 := ⟨_, rfl⟩
              have HO1 := Lib.hid ho1
              have HN1 := Lib.hid (show o1 ≠ .none from fun e => HNn.out (by rw [← HLr.out, ho1, e]; rfl))
              have HOp1 := Lib.hid (HLq.out f' (by omega) (aft sq l1) w7.drew (HB7.out.below ((Below.refl _ w7).drew)).sx.rd (HM.out.only (HB7.out.below ((Below.refl _ w7).drew)).sx.only) (by rw [ho1]; exact HN1.out))
              rw [ho1, show ((lv + 1 : Nat) : Int) = (lv : Int) + 1 from by simp] at HOp1
              rw [ho1] at HLr
              clear ho1
              obtain ⟨c0, c1, c2, c3, cf⟩ := HB7.out.four.cells
              rcases out_cases o1 with ⟨y, l2, rfl⟩ | hno
              · go_upto_region 9 with fail
                go_region_law (first
                  | (go_simp; go_at_call 159; refine HOp1.out.mono ?_; rintro e w8 ⟨v, rfl, hy, hr8, ho8⟩; obtain ⟨n5, A5, k5, c5, nm5, rfl, hnm5⟩ := hy.form; have HJ := Lib.hid ((HB7.out.below ((Below.refl _ w7).drew)).join hr8 ho8 hy sq); have HB8 := Lib.hid ((HB7.out.below ((Below.refl _ w7).drew)).step hr8 ho8); obtain ⟨d0, d1, d2, d3, df⟩ := HB8.out.four.cells; have hlt8 := HB8.out.four.lt; have HTab8 := Lib.hid ((HTab7.out.only (Only.of (b := b) ((Below.refl _ w7).drew) (Nat.le_refl _))).only ho8); clear hy hr8 ho8 hnm5))
                all_goals
                  go_wp2_with fail
                  refine ⟨⟨f', Go.Proofs.YtiigclkebnmopaaGreatDoor.bx sq [x, y], l2, 0, some ⟨w8.heap.size, 0, none⟩, 2, 2, [], by omega, HLr, Lib.hid (HTab8.out.stored (by omega) (by omega) _ _ _ _ _), HJ⟩, ?_⟩
                  exact chain_less HJ.out.sx.rd.pos HP1.out hlen4 (parseR_less HO1.out)
              · go_upto_region 9 with fail
                go_region_with (first
                  | (go_at_call 159; refine HOp1.out.mono ?_; intro e w8 hp; obtain ⟨p, cc, rfl, ho8, HF⟩ := RPG.fail hno hp; have HO8 := Lib.hid ((HB7.out.below ((Below.refl _ w7).drew)).sx.only.trans ho8); have HFF := Lib.hid HF; clear hp ho8 HF; unfold rpan; go_wp2_with fail; refine region_ends w8 ?_ ?_; (refine ⟨rfl, ?_⟩; rw [← HQ.out, ← HLr.out]; exact HFF.out _ _ HO8.out)))
                all_goals trivial
            · have HO5 := Lib.hid ((if_neg (fun h => hin ((rlev_mem _ _).2 h))).symm.trans HLp.out)
              have HE := Lib.hid (HB5.out.gives HO5.out.symm)
              rw [show decide (sg l1 ∈ rlev lv) = false from by simpa using hin]
              clear hin HC crow
              go_wp2_with fail
              obtain ⟨q0, q1, q2, q3, qf⟩ := HE.out.2.cells
              unfold set4 at q0 q1 q2 q3
              refine bodyPost_ret (v := .agg #[.string (toB x.op), .int .i64 (n : Int), .string (toB nm), .slice A k c]) (by simp [results, Tryz.results159, go_sem, q0, q1, q2, q3]) rfl ?_
              rw [← HQ.out]
              exact HE.out.1
    · obtain ⟨p, c, rfl, ho3, HF⟩ := RPG.fail hno hp
      have HO3 := Lib.hid (HX2.out.only.trans ho3)
      have HFF := Lib.hid HF
      clear hp hno ho3 HF
      unfold rpan
      go_wp2_with fail
      rw [← HQ.out, ← HO2.out]
      exact ⟨rfl, HFF.out _ _ HO3.out⟩

end Go.Proofs.YtiigclkebnmopaaGreatDoor

namespace Go.Proofs.YtiigclkebnmopaaGreatDoor
open Go.RowKit Go.Shelf

theorem parseR_exprL (f : Nat) (x : Ex) (l : List UInt8) : parseR (f + 1) (.exprL x) l = if sg l = [44] then (parseR f .assign (aft (sg l) l)).bind fun y l1 => parseR f (.exprL (bx (sg l) [x, y])) l1 else .ok x (gap l) := rfl
set_option maxRecDepth 100000 in
set_option maxHeartbeats 6400000 in
theorem rexpr_any (f b : Nat) (T : List UInt8) (hA : ∀ f', f' ≤ f → RCtr 62 .assign f' b T) : RCtr 28 .expr (f + 1) b T := by
  intro l w h hm hn
  have HX0 := Lib.hid (RSX.start h)
  have HAs := Lib.hid hA
  have HM := Lib.hid hm
  have hlt := h.lt
  obtain ⟨o, ho⟩ : ∃ o, parseR (f + 1) .expr l = o := ⟨_, rfl⟩
  rw [ho] at hn ⊢
  have HNn := Lib.hid hn
  obtain ⟨Q, hQ⟩ : ∃ Q, RPG b T o w = Q := ⟨_, rfl⟩
  rw [hQ]
  have HQ := Lib.hid hQ
  obtain ⟨o0, ho0⟩ : ∃ o0, parseR f .assign l = o0 := ⟨_, rfl⟩
  have HO2 := Lib.hid (show o0.bind (fun x l1 => parseR f (.exprL x) l1) = o by rw [← ho0]; exact ho)
  clear hQ h hn hA ho hm
  go_enter Tryz.func28, Tryz.ntmps28
  go_wp2_with fail
  generalize w.alloc (.cells #[.string ⟨#[]⟩, .int .i64 0, .string ⟨#[]⟩, .slice none 0 0] 25) = w1 at *
  obtain ⟨bx, hbx⟩ : ∃ bx, w.heap.size = bx := ⟨_, rfl⟩
  rw [hbx] at HX0
  simp only [hbx]
  clear hbx
  have HL0 := Lib.hid (HAs.out f (Nat.le_refl _) l w1 HX0.out.rd (HM.out.only HX0.out.only) (by rw [ho0]; intro e; exact HNn.out (by rw [← HO2.out, e]; rfl)))
  rw [ho0] at HL0
  clear ho0
  refine HL0.out.mono ?_
  intro e w3 hp
  clear HL0
  rcases out_cases o0 with ⟨x, l1, rfl⟩ | hno
  · obtain ⟨v, rfl, hx, hr3, ho3⟩ := hp
    obtain ⟨n, A, k, c, nm, rfl, hnm⟩ := hx.form
    have HB := Lib.hid (HX0.out.box hr3 ho3 hx)
    have HK := Lib.hid (show parseR f (.exprL x) l1 = o from HO2.out)
    clear hx hr3 ho3 hnm HX0
    go_wp2_with fail
    generalize w3.alloc (.cells #[.string (toB x.op), .int .i64 (n : Int), .string (toB nm), .slice A k c] 25) = w4 at *
    generalize w3.heap.size = gx at *
    go_loopw [] (fun wr => ∃ (f' : Nat) (x : Ex) (l' : List UInt8) (n : Int) (A : Option Addr) (k c : Nat) (nm : List UInt8), f' ≤ f ∧ Hid (parseR f' (.exprL x) l' = o) ∧ Hid (RSB w b bx gx T l' (.string (toB x.op)) (.int .i64 (n : Int)) (.string (toB nm)) (.slice A k c) x wr)) (fun wr => T.length - posOf wr b)
    case atStart => exact ⟨f, x, l1, n, A, k, c, nm, Nat.le_refl _, HK, HB⟩
    case round =>
      clear HB HK
      obtain ⟨f', x, l1, n, A, k, c, nm, hf', HK, HB⟩ := hrel
      have HG := Lib.hid (agot_any b T l1 [44] wr HB.out.sx.rd (by decide))
      rw [show toB [44] = (⟨#[44]⟩ : ByteArray) from rfl] at HG
      have HP1 := Lib.hid HB.out.sx.rd.pos
      go_wp2_with fail
      refine HG.out.mono ?_
      rintro e w5 ⟨hcase, ho5⟩
      cases f' with
      | zero => exact absurd HK.out.symm (fun h => HNn.out h)
      | succ f' =>
        have HLp := Lib.hid ((parseR_exprL f' x l1).symm.trans HK.out)
        rcases hcase with ⟨hin, rfl, hr5⟩ | ⟨hno, rfl, hr5⟩
        · have HB5 := Lib.hid (HB.out.step hr5 ho5)
          have HLr := Lib.hid ((if_pos hin).symm.trans HLp.out)
          have hlen4 := aft_len' (l := l1) (s := [44]) (by decide) hin
          rw [hin] at HLr
          clear hr5 ho5 hin HK HB HLp HG
          obtain ⟨o1, ho1⟩ : ∃ o1, parseR f' .assign (aft [44] l1) = o1 := ⟨_, rfl⟩
          have HO1 := Lib.hid ho1
          have HN1 := Lib.hid (show o1 ≠ .none from fun e => HNn.out (by rw [← HLr.out, ho1, e]; rfl))
          have HOp1 := Lib.hid (HAs.out f' (by omega) (aft [44] l1) w5.drew (HB5.out.below ((Below.refl _ w5).drew)).sx.rd (HM.out.only (HB5.out.below ((Below.refl _ w5).drew)).sx.only) (by rw [ho1]; exact HN1.out))
          rw [ho1] at HOp1 HLr
          clear ho1
          obtain ⟨c0, c1, c2, c3, cf⟩ := HB5.out.four.cells
          rcases out_cases o1 with ⟨y, l2, rfl⟩ | hno
          · go_upto_region 3 with fail
            go_region_law (first
              | (go_simp; go_at_call 62; refine HOp1.out.mono ?_; rintro e w8 ⟨v, rfl, hy, hr8, ho8⟩; obtain ⟨n5, A5, k5, c5, nm5, rfl, hnm5⟩ := hy.form; have HJ := Lib.hid ((HB5.out.below ((Below.refl _ w5).drew)).join hr8 ho8 hy [44]); have HB8 := Lib.hid ((HB5.out.below ((Below.refl _ w5).drew)).step hr8 ho8); obtain ⟨d0, d1, d2, d3, df⟩ := HB8.out.four.cells; have hlt8 := HB8.out.four.lt; clear hy hr8 ho8 hnm5))
            all_goals
              go_wp2_with fail
              refine ⟨⟨f', Go.Proofs.YtiigclkebnmopaaGreatDoor.bx [44] [x, y], l2, 0, some ⟨w8.heap.size, 0, none⟩, 2, 2, [], by omega, HLr, HJ⟩, ?_⟩
              exact chain_less HJ.out.sx.rd.pos HP1.out hlen4 (parseR_less HO1.out)
          · go_upto_region 3 with fail
            go_region_with (first
              | (go_at_call 62; refine HOp1.out.mono ?_; intro e w8 hp; obtain ⟨p, cc, rfl, ho8, HF⟩ := RPG.fail hno hp; have HO8 := Lib.hid ((HB5.out.below ((Below.refl _ w5).drew)).sx.only.trans ho8); have HFF := Lib.hid HF; clear hp ho8 HF; unfold rpan; go_wp2_with fail; refine region_ends w8 ?_ ?_; (refine ⟨rfl, ?_⟩; rw [← HQ.out, ← HLr.out]; exact HFF.out _ _ HO8.out)))
            all_goals trivial
        · have HB5 := Lib.hid (HB.out.step hr5 ho5)
          have HO5 := Lib.hid ((if_neg hno).symm.trans HLp.out)
          have HE := Lib.hid (HB5.out.gives HO5.out.symm)
          clear hr5 ho5 hno HK HB HLp HG
          obtain ⟨c0, c1, c2, c3, cf⟩ := HB5.out.four.cells
          obtain ⟨d0, d1, d2, d3, df⟩ := HB5.out.sx.res.cells
          go_wp2_with fail
          obtain ⟨q0, q1, q2, q3, qf⟩ := HE.out.2.cells
          unfold set4 at q0 q1 q2 q3
          refine bodyPost_ret (v := .agg #[.string (toB x.op), .int .i64 (n : Int), .string (toB nm), .slice A k c]) (by simp [results, Tryz.results28, go_sem, q0, q1, q2, q3]) rfl ?_
          rw [← HQ.out]
          exact HE.out.1
  · obtain ⟨p, c, rfl, ho3, HF⟩ := RPG.fail hno hp
    have HO3 := Lib.hid (HX0.out.only.trans ho3)
    have HFF := Lib.hid HF
    clear hp hno ho3 HF
    unfold rpan
    go_wp2_with fail
    rw [← HQ.out, ← HO2.out]
    exact ⟨rfl, HFF.out _ _ HO3.out⟩

end Go.Proofs.YtiigclkebnmopaaGreatDoor

namespace Go.Proofs.YtiigclkebnmopaaGreatDoor
open Go.RowKit Go.Shelf

def choAR (f : Nat) (x a : Ex) (l2 : List UInt8) : Out := if sg l2 = [58] then (parseR f .choice (aft (sg l2) l2)).bind (fun c l3 => .ok (bx [63] [x, a, c]) l3) else badAt l2
def choKR (f : Nat) (x : Ex) (l1 : List UInt8) : Out := if sg l1 = [63] then (parseR f .expr (aft (sg l1) l1)).bind (choAR f x) else .ok x (gap l1)
theorem parseR_cho (f : Nat) (l : List UInt8) : parseR (f + 1) .choice l = (parseR f (.lev 0) l).bind (choKR f) := rfl

set_option maxRecDepth 100000 in
set_option maxHeartbeats 6400000 in
theorem rchoice_any (f b : Nat) (T : List UInt8) (hL : RCtrL 0 f b T) (hE : RCtr 28 .expr f b T) (hC : RCtr 105 .choice f b T) : RCtr 105 .choice (f + 1) b T := by
  intro l w h hm hn
  have HX0 := Lib.hid (RSX.start h)
  have hlt := h.lt
  rw [parseR_cho] at hn ⊢
  obtain ⟨o0, ho0⟩ : ∃ o0, parseR f (.lev 0) l = o0 := ⟨_, rfl⟩
  have HL := Lib.hid (hL l _ HX0.out.rd (hm.only HX0.out.only) (bind_none hn))
  rw [ho0, show ((0 : Nat) : Int) = 0 from rfl] at HL
  rw [ho0] at hn ⊢
  obtain ⟨o, ho⟩ : ∃ o, o0.bind (choKR f) = o := ⟨_, rfl⟩
  have HO := Lib.hid ho
  rw [ho] at hn ⊢
  have HNn := Lib.hid hn
  have HEx := Lib.hid (hE.at hm)
  have HCh := Lib.hid (hC.at hm)
  obtain ⟨Q, hQ⟩ : ∃ Q, RPG b T o w = Q := ⟨_, rfl⟩
  rw [hQ]
  have HQ := Lib.hid hQ
  clear hQ h hn hL hE hC ho ho0
  go_enter Tryz.func105, Tryz.ntmps105
  go_wp2_with fail
  generalize w.alloc (.cells #[.string ⟨#[]⟩, .int .i64 0, .string ⟨#[]⟩, .slice none 0 0] 25) = w1 at *
  refine HL.out.mono ?_
  intro e w2 hp
  clear HL
  obtain ⟨bx, hbx⟩ : ∃ bx, w.heap.size = bx := ⟨_, rfl⟩
  rw [hbx] at HX0
  simp only [hbx]
  clear hbx
  rcases out_cases o0 with ⟨x, l1, rfl⟩ | hno
  · obtain ⟨v, rfl, hx, hr2, ho2⟩ := hp
    obtain ⟨n, A, k, c, nm, rfl, hnm⟩ := hx.form
    have HB := Lib.hid (HX0.out.box hr2 ho2 hx)
    have HK := Lib.hid (show choKR f x l1 = o from HO.out)
    clear hx hr2 ho2 hnm HO
    go_wp2_with fail
    generalize w2.alloc (.cells #[.string (toB x.op), .int .i64 (n : Int), .string (toB nm), .slice A k c] 25) = w3 at *
    generalize w2.heap.size = gx at *
    have HI := Lib.hid (agot_any b T l1 [63] w3 HB.out.sx.rd (by decide))
    rw [show toB [63] = (⟨#[63]⟩ : ByteArray) from rfl] at HI
    refine HI.out.mono ?_
    clear HI
    rintro e w4 ⟨hcase, ho4⟩
    rcases hcase with ⟨hin, rfl, hr4⟩ | ⟨hno, rfl, hr4⟩
    · have HB4 := Lib.hid (HB.out.step hr4 ho4)
      obtain ⟨o2, ho2⟩ : ∃ o2, parseR f .expr (aft [63] l1) = o2 := ⟨_, rfl⟩
      have HK2 := Lib.hid ((if_pos hin).symm.trans HK.out)
      rw [hin, ho2] at HK2
      have HN2 := Lib.hid (show parseR f .expr (aft [63] l1) ≠ .none from fun e => HNn.out (by rw [← HK2.out, ← ho2, e]; rfl))
      have HE2 := Lib.hid (HEx.out (aft [63] l1) w4 HB4.out.sx.rd HB4.out.sx.only HN2.out)
      rw [ho2] at HE2
      clear hr4 ho4 hin ho2 HK HB
      go_wp2_with fail
      refine HE2.out.mono ?_
      intro e w5 hp
      clear HE2
      rcases out_cases o2 with ⟨y, l2, rfl⟩ | hno
      · obtain ⟨v, rfl, hy, hr5, ho5⟩ := hp
        obtain ⟨n5, A5, k5, c5, nm5, rfl, hnm5⟩ := hy.form
        have HB5 := Lib.hid (HB4.out.box2 hr5 ho5 hy)
        have HK3 := Lib.hid (show choAR f x y l2 = o from HK2.out)
        clear hy hr5 ho5 hnm5 HB4
        go_wp2_with fail
        generalize w5.alloc (.cells #[.string (toB y.op), .int .i64 (n5 : Int), .string (toB nm5), .slice A5 k5 c5] 25) = w6 at *
        generalize w5.heap.size = gy at *
        have HI := Lib.hid (agot_any b T l2 [58] w6 HB5.out.sb.sx.rd (by decide))
        rw [show toB [58] = (⟨#[58]⟩ : ByteArray) from rfl] at HI
        refine HI.out.mono ?_
        clear HI
        rintro e w7 ⟨hcase, ho7⟩
        rcases hcase with ⟨hin, rfl, hr7⟩ | ⟨hno, rfl, hr7⟩
        · have HB7 := Lib.hid (HB5.out.step hr7 ho7)
          have HB8 := Lib.hid (HB7.out.below ((Below.refl _ w7).drew))
          obtain ⟨o3, ho3⟩ : ∃ o3, parseR f .choice (aft [58] l2) = o3 := ⟨_, rfl⟩
          have HK4 := Lib.hid ((if_pos hin).symm.trans HK3.out)
          rw [hin, ho3] at HK4
          have HN3 := Lib.hid (show parseR f .choice (aft [58] l2) ≠ .none from fun e => HNn.out (by rw [← HK4.out, ← ho3, e]; rfl))
          have HE3 := Lib.hid (HCh.out (aft [58] l2) w7.drew HB8.out.sb.sx.rd HB8.out.sb.sx.only HN3.out)
          rw [ho3] at HE3
          obtain ⟨c0, c1, c2, c3, cf⟩ := HB7.out.sb.four.cells
          obtain ⟨b0, b1, b2, b3, bf⟩ := HB7.out.four.cells
          clear hr7 ho7 hin ho3 HK3 HB5
          go_upto_region 7 with fail
          rcases out_cases o3 with ⟨z, l3, rfl⟩ | hno
          · go_region_law (first
              | (go_simp; go_at_call 105; refine HE3.out.mono ?_; rintro e w8 ⟨v, rfl, hz, hr8, ho8⟩; obtain ⟨n8, A8, k8, c8, nm8, rfl, hnm8⟩ := hz.form; have HE := Lib.hid (HB8.out.gives3 hr8 ho8 hz [63] HK4.out.symm); have HX9 := Lib.hid (HB8.out.step hr8 ho8); clear hz hr8 ho8 hnm8; obtain ⟨d0, d1, d2, d3, df⟩ := HX9.out.sb.sx.res.cells; obtain ⟨e0, e1, e2, e3, ef⟩ := HX9.out.sb.four.cells; obtain ⟨g0, g1, g2, g3, gf⟩ := HX9.out.four.cells; have hlt9 := HX9.out.sb.sx.lt))
            all_goals
              go_wp2_with fail
              obtain ⟨q0, q1, q2, q3, qf⟩ := HE.out.2.cells
              unfold set4 at q0 q1 q2 q3
              rw [show toB [] = (⟨#[]⟩ : ByteArray) from rfl, show toB [63] = (⟨#[63]⟩ : ByteArray) from rfl] at q0 q1 q2 q3
              refine bodyPost_ret (v := .agg #[.string ⟨#[63]⟩, .int .i64 0, .string ⟨#[]⟩, .slice (some ⟨w8.heap.size, 0, none⟩) 3 3]) (by simp [results, Tryz.results105, go_sem, q0, q1, q2, q3]) rfl ?_
              rw [← HQ.out]
              exact HE.out.1
          · go_region_with (first
              | (go_at_call 105; refine HE3.out.mono ?_; intro e w8 hp; obtain ⟨p, cc, rfl, ho8, HF⟩ := RPG.fail hno hp; have h0 := HF (fun c l3 => .ok (Go.Proofs.YtiigclkebnmopaaGreatDoor.bx [63] [x, y, c]) l3) w (HB8.out.sb.sx.only.trans ho8); rw [HK4.out] at h0; have HFF := Lib.hid h0; clear h0 hp ho8 HF; unfold rpan; go_wp2_with fail; refine region_ends w8 ?_ ?_; (refine ⟨rfl, ?_⟩; rw [← HQ.out]; exact HFF.out)))
            all_goals trivial
        · have HB7 := Lib.hid (HB5.out.step hr7 ho7)
          have HK4 := Lib.hid ((if_neg hno).symm.trans HK3.out)
          have HW := Lib.hid (abad_any b T (gap l2) w7 hr7)
          clear hr7 ho7 hno HK3 HB5
          go_wp2_with fail
          refine HW.out.mono ?_
          intro e w8 hw
          obtain ⟨hpg, p, cc, rfl⟩ := RPG.badAt hw HB7.out.sb.sx.only
          rw [badAt_gap, HK4.out] at hpg
          have HPG := Lib.hid hpg
          clear hw hpg HW
          unfold rpan
          go_wp2_with fail
          rw [← HQ.out]
          exact ⟨rfl, HPG.out⟩
      · obtain ⟨p, cc, rfl, ho5, HF⟩ := RPG.fail hno hp
        have h0 := HF (choAR f x) w (HB4.out.sx.only.trans ho5)
        rw [HK2.out] at h0
        have HFF := Lib.hid h0
        clear h0 hp hno ho5 HF
        unfold rpan
        go_wp2_with fail
        rw [← HQ.out]
        exact ⟨rfl, HFF.out⟩
    · have HB4 := Lib.hid (HB.out.step hr4 ho4)
      have HLr := Lib.hid ((if_neg hno).symm.trans HK.out)
      clear hr4 ho4 hno HK HB
      obtain ⟨c0, c1, c2, c3, cf⟩ := HB4.out.four.cells
      obtain ⟨d0, d1, d2, d3, df⟩ := HB4.out.sx.res.cells
      have hlt4 := HB4.out.sx.lt
      have HE := Lib.hid (HB4.out.gives HLr.out.symm)
      go_wp2_with fail
      obtain ⟨q0, q1, q2, q3, qf⟩ := HE.out.2.cells
      unfold set4 at q0 q1 q2 q3
      refine bodyPost_ret (v := .agg #[.string (toB x.op), .int .i64 (n : Int), .string (toB nm), .slice A k c]) (by simp [results, Tryz.results105, go_sem, q0, q1, q2, q3]) rfl ?_
      rw [← HQ.out]
      exact HE.out.1
  · obtain ⟨p, c, rfl, ho2, HF⟩ := RPG.fail hno hp
    have HO2 := Lib.hid (HX0.out.only.trans ho2)
    have HFF := Lib.hid HF
    clear hp hno ho2 HF
    unfold rpan
    go_wp2_with fail
    rw [← HQ.out, ← HO.out]
    exact ⟨rfl, HFF.out _ _ HO2.out⟩

end Go.Proofs.YtiigclkebnmopaaGreatDoor
