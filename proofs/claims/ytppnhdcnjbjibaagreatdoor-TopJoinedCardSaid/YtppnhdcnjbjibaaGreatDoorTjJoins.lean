/- TopJoined: a text is joined with itself: one line for each pair of lines with one key. (Printed by tools/gtjjoin.py.) -/
import Derived.Test.YtppnhdcnjbjibaaGreatDoorTjJoin
namespace Go.Proofs.YtppnhdcnjbjibaaGreatDoor
open Go.RowKit

/-- the lines that were joined, and what is still to be counted -/
structure JL (x : Nat) (N : Nat) (K : List R3) (w : World) : Prop where
  ex : ∃ L, JI x L w ∧ (∀ t ∈ L, LineOk t) ∧ L.length + pairsOf (keysR K) = N
theorem JL.lt {x N : Nat} {K : List R3} {w : World} (h : JL x N K w) : x < w.heap.size := by
  obtain ⟨L, h1, _⟩ := h.ex
  exact h1.lt
theorem JL.keep {x N : Nat} {K : List R3} {w w' : World} (h : JL x N K w) (hb : Below w.heap.size w w') : JL x N K w' := by
  obtain ⟨L, h1, h2, h3⟩ := h.ex
  exact ⟨L, h1.keep hb, h2, h3⟩
/-- the lines that were joined, with their number -/
structure JM (x n : Nat) (w : World) : Prop where
  ex : ∃ L, JI x L w ∧ (∀ t ∈ L, LineOk t) ∧ L.length = n

set_option maxRecDepth 100000 in
set_option maxHeartbeats 3200000 in
theorem join_text (Q : List R3) (hQ : ∀ r ∈ Q, okR r) (hn : Q.length ≤ 100) (hup : KeysUp Q) (w : World) (hmx : MX w) :
    Calls Tryz.prog 9 #[joinV, .string (toB (txtL (Q.map lnL))), .string (toB (txtL (Q.map lnL)))] w fun e w' => ∃ s : ByteArray, e = .returned (.tuple #[.string s, .int .i64 0]) ∧ (bl s).count 10 = pairsOf (keysR Q) ∧ Below w.heap.size w w' := by
  have hok := rows_ok hQ hn
  obtain ⟨x0, hx0⟩ : ∃ x, x = w.heap.size := ⟨_, rfl⟩
  obtain ⟨W0, hW0⟩ : ∃ W0, W0 = w.alloc (.cells #[.int .i64 1, .int .i64 1, .string ⟨#[44]⟩, .bool false, .bool false, .bool false, .string ⟨#[]⟩, .slice none 0 0] 44) := ⟨_, rfl⟩
  have HB0 : Hid (Below w.heap.size w W0) := Lib.hid (by rw [hW0]; exact (Below.refl _ w).alloc (Nat.le_refl _) _)
  have HX : Hid (JspAt W0 x0) := Lib.hid (by rw [hW0, hx0]; exact heap_alloc_new w _)
  have HM : Hid (MX W0) := Lib.hid (hmx.keep HB0.out)
  have HWE := Lib.hid hW0
  have HXE := Lib.hid hx0
  have HSZ := Lib.hid (fun W (h : Below W0.heap.size W0 W) => sized_new [toB (txtL (Q.map lnL)), toB (txtL (Q.map lnL))] W 9 (HM.out.keep h) (by simp) (fun s hs => by
    simp only [List.mem_cons, List.not_mem_nil, or_false, or_self] at hs
    rw [hs]
    have := hok.size
    omega) (by simp [hok.large]))
  have HRC := Lib.hid (fun W (h : Below W0.heap.size W0 W) => records_any Q hQ hn hup W (HM.out.keep h))
  have HPL : Hid (pairsOf (keysR Q) ≤ 10000) := Lib.hid (Nat.le_trans (pairs_le _) (by unfold keysR; rw [List.length_map]; exact Nat.mul_le_mul hn hn))
  have HQ := Lib.hid hQ
  have HUP := Lib.hid hup
  have HQN := Lib.hid hn
  generalize toB (txtL (Q.map lnL)) = TX at *
  clear hmx hW0 hx0 hok hup hQ hn
  obtain ⟨y0, y1, y2, y3, y4, y5, y6, y7⟩ := HX.out.cells
  go_enter Tryz.func9, Tryz.ntmps9
  go_upto_region 1 with fail
  rw [← HXE.out, ← HWE.out]
  go_wp2_with fail
  refine (joined_any W0).mono ?_
  rintro e wa ⟨rfl, hba⟩
  have HBA := Lib.hid hba
  clear hba y0 y1 y2 y3 y4 y5 y6 y7
  go_wp2_with fail
  refine (HSZ.out wa HBA.out).mono ?_
  rintro e wb ⟨rfl, hbb⟩
  have HBB := Lib.hid (HBA.out.trans (hbb.mono HBA.out.size))
  clear hbb
  obtain ⟨y0, y1, y2, y3, y4, y5, y6, y7⟩ := (HX.out.keep HBB.out).cells
  go_wp2_with fail
  refine (HRC.out wb HBB.out).mono ?_
  rintro e wc1 ⟨v1, P1, rfl, hp1, hv1, hbc⟩
  have HV1 := Lib.hid hv1
  have HP1 := Lib.hid hp1
  have HBC := Lib.hid (HBB.out.trans (hbc.mono HBB.out.size))
  clear hbc hv1 hp1 y0 y1 y2 y3 y4 y5 y6 y7
  obtain ⟨y0, y1, y2, y3, y4, y5, y6, y7⟩ := (HX.out.keep HBC.out).cells
  go_wp2_with fail
  refine (HRC.out wc1 HBC.out).mono ?_
  rintro e wd ⟨v2, P2, rfl, hp2, hv2, hbd⟩
  have HV2 := Lib.hid hv2
  have HV1d := Lib.hid (HV1.out.keep hbd)
  have HP2 := Lib.hid hp2
  have HBD := Lib.hid (HBC.out.trans (hbd.mono HBC.out.size))
  clear hbd hv2 hp2 y0 y1 y2 y3 y4 y5 y6 y7 HRC HSZ HV1
  obtain ⟨y0, y1, y2, y3, y4, y5, y6, y7⟩ := (HX.out.keep HBD.out).cells
  go_upto_region 12 with fail
  obtain ⟨x, hx⟩ : ∃ x, x = wd.heap.size := ⟨_, rfl⟩
  obtain ⟨wj, hwj⟩ : ∃ z, z = wd.alloc (.cells #[.int .i64 1, .int .i64 1, .string ⟨#[44]⟩, .bool false, .bool false, .bool false, .string ⟨#[]⟩, .slice none 0 0, .slice none 0 0] 72) := ⟨_, rfl⟩
  have HJ0 : Hid (JL x (pairsOf (keysR Q)) Q wj) := Lib.hid ⟨[], ⟨.slice none 0 0, by rw [hwj, hx]; exact heap_alloc_new wd _, OwnL.nil _ _⟩, fun t ht => absurd ht (by simp), by simp⟩
  have HBJ : Hid (Below x wd wj) := Lib.hid (by rw [hwj, hx]; exact (Below.refl _ wd).alloc (Nat.le_refl _) _)
  have HBX : Hid (Below w.heap.size w wd) := Lib.hid (HB0.out.trans (HBD.out.mono HB0.out.size))
  have HXJ : Hid (JspAt wd x0) := Lib.hid (HX.out.keep HBD.out)
  rw [← hx, ← hwj]
  have HXD := Lib.hid hx
  clear hx hwj y0 y1 y2 y3 y4 y5 y6 y7 HB0 HBA HBB HBC HBD HX HM HWE
  go_loopw [10, 12] (fun vx vy wr => ∃ K : List R3, Hid ((∀ r ∈ K, okR r) ∧ K.length ≤ 100 ∧ KeysUp K) ∧ (∃ P1, Hid (rowsP P1 = K) ∧ Hid (RV wd vx P1)) ∧ (∃ P2, Hid (rowsP P2 = K) ∧ Hid (RV wd vy P2)) ∧ Hid (JL x (pairsOf (keysR Q)) K wr) ∧ Hid (Below x wd wr)) (fun vx _ _ => match vx with | .slice _ n _ => n | _ => 0)
  case atStart => exact ⟨Q, Lib.hid ⟨HQ.out, HQN.out, HUP.out⟩, ⟨P1, HP1, HV1d⟩, ⟨P2, HP2, HV2⟩, HJ0, HBJ⟩
  case round =>
    obtain ⟨K, HK, ⟨Pa, HPa, HVa⟩, ⟨Pb, HPb, HVb⟩, HJL, HBR⟩ := hrel
    obtain ⟨Aa, ca, rfl⟩ := HVa.out.form
    obtain ⟨Ab, cb, rfl⟩ := HVb.out.form
    have hla : Pa.length = K.length := by have := congrArg List.length HPa.out; simpa [rowsP] using this
    have hlb : Pb.length = K.length := by have := congrArg List.length HPb.out; simpa [rowsP] using this
    rw [hla] at HVa
    rw [hlb] at HVb
    rw [hla, hlb]
    have HLA := Lib.hid hla
    have HLB := Lib.hid hlb
    have hxw : x = wd.heap.size := HXD.out
    have HFR : Hid (∀ W, Below wr.heap.size wr W → Below wd.heap.size wd W) := Lib.hid (fun W h => by
      have h1 := HBR.out
      rw [HXD.out] at h1
      exact h1.trans (h.mono (by have := h1.size; omega)))
    clear hla hlb hxw
    cases K with
    | nil =>
      have HJE := Lib.hid HJL.out.ex
      go_upto_region 37 with fail
      obtain ⟨L, ⟨vl, hxb, hol⟩, hgood, hlen⟩ := HJE.out
      have hp0 : pairsOf (keysR []) = 0 := rfl
      rw [hp0, Nat.add_zero] at hlen
      have x8 : wr.cell? ⟨x, 8, none⟩ = some vl := by simp [World.cell?, hxb, jC]
      have HRS := Lib.hid (result_any L vl wr hol.sl (by have := HPL.out; omega) (fun t ht => (hgood t ht).2))
      have HCT : Hid ((bl (toB (txtL (L.map bl)))).count 10 = pairsOf (keysR Q)) := Lib.hid (by
        rw [bl_toB, txtL_count _ (fun y hy => by
          obtain ⟨t, ht, rfl⟩ := List.mem_map.1 hy
          exact (hgood t ht).1), List.length_map, hlen])
      obtain ⟨AL, cL, rfl⟩ := hol.form
      have HBZ : Hid (Below w.heap.size w wr) := Lib.hid (HBX.out.trans ((HFR.out wr (Below.refl _ _)).mono HBX.out.size))
      generalize toB (txtL (L.map bl)) = TZ at *
      clear hxb hol hgood hlen hp0
      go_wp2_with fail
      refine HRS.out.mono ?_
      rintro e w3 ⟨rfl, hb3⟩
      have HB3 := Lib.hid (HBZ.out.trans (hb3.mono HBZ.out.size))
      clear hb3
      go_wp2_with fail
      exact bodyPost_ret (v := .tuple #[.string TZ, .int .i64 0]) (by simp [results, Tryz.results9, go_sem]) rfl ⟨TZ, rfl, HCT.out, HB3.out⟩
    | cons r K' =>
      obtain ⟨g, hg1, hg2, hg3, hg4, hg5, hg6⟩ := group_step r K' HK.out.1 HK.out.2.2
      have HG := Lib.hid (And.intro hg3 (And.intro hg4 (And.intro hg5 hg6)))
      clear hg3 hg4 hg5 hg6
      obtain ⟨n, hn⟩ : ∃ n, (r :: K').length = n := ⟨_, rfl⟩
      have HN := Lib.hid hn
      have hn0 : 0 < n := by rw [← hn]; simp
      have hn1 : n ≤ 100 := by rw [← hn]; exact HK.out.2.1
      rw [hn] at HVa HVb hg2 HLA HLB ⊢
      have hnz : (0 : Int) < (n : Int) := by omega
      have hnb : ((n : Int) == 0) = false := beq_eq_false_iff_ne.2 (by omega)
      -- the records, as values
      have HRV : Hid (∀ W, Below wd.heap.size wd W → RV W (.slice Aa n ca) Pa ∧ RV W (.slice Ab n cb) Pb) := Lib.hid (fun W h => ⟨HVa.out.keep h, HVb.out.keep h⟩)
      have HKA : Hid (∀ j (h : j < Pa.length), Pa[j].1 = (r :: K')[j]'(by rw [HN.out, ← HLA.out]; exact h)) := Lib.hid (fun j h => by
        have e : (rowsP Pa)[j]? = (r :: K')[j]? := by rw [HPa.out]
        unfold rowsP at e
        rw [List.getElem?_map, List.getElem?_eq_getElem h, List.getElem?_eq_getElem (by rw [HN.out, ← HLA.out]; exact h)] at e
        exact Option.some.inj e)
      have HKB : Hid (∀ j (h : j < Pb.length), Pb[j].1 = (r :: K')[j]'(by rw [HN.out, ← HLB.out]; exact h)) := Lib.hid (fun j h => by
        have e : (rowsP Pb)[j]? = (r :: K')[j]? := by rw [HPb.out]
        unfold rowsP at e
        rw [List.getElem?_map, List.getElem?_eq_getElem h, List.getElem?_eq_getElem (by rw [HN.out, ← HLB.out]; exact h)] at e
        exact Option.some.inj e)
      obtain ⟨key, hkey⟩ : ∃ key, key = r.1 := ⟨_, rfl⟩
      have HKEY := Lib.hid hkey
      obtain ⟨ba, oa, ca', ea, _, _, hca⟩ := (HRV.out wr (HFR.out wr (Below.refl _ _))).1.at 0 (by rw [HLA.out]; exact hn0)
      obtain ⟨bb, ob, cb', eb, _, _, hcb⟩ := (HRV.out wr (HFR.out wr (Below.refl _ _))).2.at 0 (by rw [HLB.out]; exact hn0)
      injection ea with ea e1 e2
      injection eb with eb e3 e4
      clear e1 e2 e3 e4
      subst ea eb
      rw [HKA.out 0 (by rw [HLA.out]; exact hn0), Nat.zero_mul, Nat.add_zero] at hca
      rw [HKB.out 0 (by rw [HLB.out]; exact hn0), Nat.zero_mul, Nat.add_zero] at hcb
      have hca2 : wr.cell? ⟨ba, oa + 1, none⟩ = some (.string key) := by rw [hkey]; exact hca
      have hcb2 : wr.cell? ⟨bb, ob + 1, none⟩ = some (.string key) := by rw [hkey]; exact hcb
      have hbl : Op.bytesLess key.toList key.toList = false := by
        cases h : Op.bytesLess key.toList key.toList
        · rfl
        · have := (num_less _ _ _ (Nat.le_refl _) (Nat.le_refl _)).2 h
          omega
      clear hca hcb hkey hn
      go_upto_region 14 with fail
      go_cut [86] from 68 to 86 (fun s86 wx => s86 = .bool true ∧ Hid (Below wr.heap.size wr wx))
      case first =>
        clear HJL HRV HKA HKB HG HK
        go_quiet (fail)
        go_wp2_with fail
        go_meet
        exact ⟨rfl, Lib.hid (below_drewN (Below.refl _ _) _)⟩
      case rest =>
        obtain ⟨rfl, HBC⟩ := hcut
        have hca3 : wc.cell? ⟨ba, oa + 1, none⟩ = some (.string key) := (HBC.out.cell (p := ⟨ba, oa + 1, none⟩) (World.block_lt_of_cell? _ _ hca2)).trans hca2
        clear hca2 hcb2 hbl
        have HGA := Lib.hid (fun W (h : Below wd.heap.size wd W) => group_any Pa key g (by rw [HLA.out]; exact hg2) (fun j h hj => by rw [HKA.out j h, HKEY.out]; exact HG.out.1 j _ hj) (fun h => by rw [HKA.out g h, HKEY.out]; exact HG.out.2.1 _) (by rw [HLA.out]; omega) _ W (HRV.out W h).1)
        have HGB := Lib.hid (fun W (h : Below wd.heap.size wd W) => group_any Pb key g (by rw [HLB.out]; exact hg2) (fun j h hj => by rw [HKB.out j h, HKEY.out]; exact HG.out.1 j _ hj) (fun h => by rw [HKB.out g h, HKEY.out]; exact HG.out.2.1 _) (by rw [HLB.out]; omega) _ W (HRV.out W h).2)
        have HFC := Lib.hid (HFR.out wc HBC.out)
        have HJC := Lib.hid (HJL.out.keep HBC.out)
        clear HJL
        go_upto_region 17 with fail
        go_upto_region 18 with fail
        refine (HGA.out _ HFC.out).mono ?_
        rintro e w5 ⟨rfl, hw5⟩
        subst hw5
        go_upto_region 18 with fail
        refine (HGB.out _ HFC.out).mono ?_
        rintro e w6 ⟨rfl, hw6⟩
        subst hw6
        go_upto_region 18 with fail
        clear HGA HGB
        obtain ⟨wg, hwg⟩ : ∃ z, z = w6 := ⟨_, rfl⟩
        subst hwg
        obtain ⟨n0, hn0, HM0, HCT⟩ : ∃ n0, n0 + g * g + pairsOf (keysR ((r :: K').drop g)) = pairsOf (keysR Q) ∧ Hid (JM x n0 wg) ∧ True := by
          obtain ⟨L, h1, h2, h3⟩ := HJC.out.ex
          exact ⟨L.length, by rw [← h3, HG.out.2.2.1]; omega, Lib.hid ⟨L, h1, h2, rfl⟩, trivial⟩
        have HN0 := Lib.hid hn0
        have HNL : Hid (n0 + g * g ≤ 10000) := Lib.hid (by have := HPL.out; omega)
        clear HJC hn0 HCT
        have HAD : Hid (∀ W m i k, i < g → k < g → Below wd.heap.size wd W → JM x m W → m ≤ 10000 → Calls Tryz.prog 30 #[.pointer (some ⟨x, 0, none⟩), .pointer (some ⟨ba, oa + i * 2, none⟩), .pointer (some ⟨bb, ob + k * 2, none⟩)] W fun e w' => e = .returned (.tuple #[]) ∧ JM x (m + 1) w' ∧ Below x W w') := Lib.hid (fun W m i k hi hk hW hm hmm => by
          obtain ⟨L, h1, h2, h3⟩ := hm.ex
          have hia : i < Pa.length := by rw [HLA.out]; omega
          have hkb : k < Pb.length := by rw [HLB.out]; omega
          have o1 : okR Pa[i].1 := by rw [HKA.out i hia]; exact HK.out.1 _ (List.getElem_mem _)
          have o2 : okR Pb[k].1 := by rw [HKB.out k hkb]; exact HK.out.1 _ (List.getElem_mem _)
          refine (add_any x L Pa[i] Pb[k] ba (oa + i * 2) bb (ob + k * 2) W h1 ((HRV.out W hW).1.rec i hia) ((HRV.out W hW).2.rec k hkb) (by omega) o1 o2).mono ?_
          rintro e w' ⟨rfl, h4, h5⟩
          exact ⟨rfl, ⟨_, h4, fun t ht => by
            rcases List.mem_append.1 ht with ht | ht
            · exact h2 t ht
            · simp at ht
              subst ht
              exact lnJ_ok o1 o2, by simp [h3]⟩, h5⟩)
        have HBG : Hid (Below x wd wg) := Lib.hid (by rw [HXD.out]; exact HFC.out)
        have hgb : ((g : Int) == 0) = false := beq_eq_false_iff_ne.2 (by omega)
        have hgn : (g : Int) ≤ (n : Int) := by omega
        have HCA : Hid (n ≤ ca) := Lib.hid (HVa.out.cap)
        have HCB : Hid (n ≤ cb) := Lib.hid (HVb.out.cap)
        clear HFC HBC HFR hca3
        go_wp2_with fail
        go_loopw [102] (fun s102 wr => ∃ i : Nat, i ≤ g ∧ s102 = .int .i64 (i : Int) ∧ Hid (JM x (n0 + i * g) wr) ∧ Hid (Below x wd wr)) (fun s102 _ => g - (intOf s102).toNat)
        case atStart => exact ⟨0, Nat.zero_le _, rfl, Lib.hid (by rw [Nat.zero_mul]; exact HM0.out), HBG⟩
        case round =>
          obtain ⟨i, hi, rfl, HMI, HBI⟩ := hrel
          by_cases hig : i < g
          · have higz : (i : Int) < (g : Int) := by omega
            have hi1 : IntKind.i64.wrap ((i : Int) + 1) = ((i + 1 : Nat) : Int) := IntWalk.i64_in _ (by omega)
            have hin : (i : Int) < (n : Int) := by omega
            have hi0 : (0 : Int) ≤ (i : Int) := by omega
            go_wp2_with fail
            go_loopw [106] (fun s106 wr => ∃ k : Nat, k ≤ g ∧ s106 = .int .i64 (k : Int) ∧ Hid (JM x (n0 + i * g + k) wr) ∧ Hid (Below x wd wr)) (fun s106 _ => g - (intOf s106).toNat)
            case atStart => exact ⟨0, Nat.zero_le _, rfl, HMI, HBI⟩
            case round =>
              obtain ⟨k, hk, rfl, HMK, HBK⟩ := hrel
              by_cases hkg : k < g
              · have hkgz : (k : Int) < (g : Int) := by omega
                have hk1 : IntKind.i64.wrap ((k : Int) + 1) = ((k + 1 : Nat) : Int) := IntWalk.i64_in _ (by omega)
                have hkn : (k : Int) < (n : Int) := by omega
                have hk0 : (0 : Int) ≤ (k : Int) := by omega
                have hbk := HBK.out
                rw [HXD.out] at hbk
                obtain ⟨z0, z1, z2, z3, z4, z5, z6, z7⟩ := (HXJ.out.keep hbk).cells
                have HBKD := Lib.hid (hbk.trans ((Below.refl _ wr).drew.mono hbk.size))
                have HMD : Hid (JM x (n0 + i * g + k) wr.drew) := Lib.hid (by
                  obtain ⟨L, h1, h2, h3⟩ := HMK.out.ex
                  exact ⟨L, h1.keep (Below.refl _ _).drew, h2, h3⟩)
                have HCA2 := Lib.hid (HAD.out wr.drew (n0 + i * g + k) i k hig hkg HBKD.out HMD.out (by
                  have h1 := HNL.out
                  have h2 : (i + 1) * g ≤ g * g := Nat.mul_le_mul (by omega) (Nat.le_refl _)
                  rw [Nat.succ_mul] at h2
                  omega))
                clear hbk
                go_upto_region 25 with fail
                clear z0 z1 z2 z3 z4 z5 z6 z7
                refine wp_region_tail 7 (fun _ => True) (by kernel_rfl) (by decide) ?_
                have hS : True := trivial
                refine wpAnyT_take 99 0 (v := ?_) (by kernel_rfl) rfl (by kernel_rfl) (fun _ _ _ h => h) (Or.inl ⟨by rfl, fun W hW => ?_⟩) (by with_reducible assumption) ?_
                rotate_left
                focus ((try dsimp only at hW); go_simp; try with_reducible rfl)
                refine wpAnyT_take 99 1 (v := ?_) (by kernel_rfl) rfl (by kernel_rfl) (fun _ _ _ h => h) (Or.inl ⟨by rfl, fun W hW => ?_⟩) (by with_reducible assumption) ?_
                rotate_left
                focus ((try dsimp only at hW); go_simp; try with_reducible rfl)
                refine wpAnyT_take 99 2 (v := ?_) (by kernel_rfl) rfl (by kernel_rfl) (fun _ _ _ h => h) (Or.inl ⟨by rfl, fun W hW => ?_⟩) (by with_reducible assumption) ?_
                rotate_left
                focus ((try dsimp only at hW); go_simp; try with_reducible rfl)
                refine wpAnyT_take 99 3 (v := ?_) (by kernel_rfl) rfl (by kernel_rfl) (fun _ _ _ h => h) (Or.inl ⟨by rfl, fun W hW => ?_⟩) (by with_reducible assumption) ?_
                rotate_left
                focus ((try dsimp only at hW); go_simp; try with_reducible rfl)
                refine wpAnyT_take 99 4 (v := ?_) (by kernel_rfl) rfl (by kernel_rfl) (fun _ _ _ h => h) (Or.inl ⟨by rfl, fun W hW => ?_⟩) (by with_reducible assumption) ?_
                rotate_left
                focus ((try dsimp only at hW); go_simp; try with_reducible rfl)
                refine wpAnyT_take 99 5 (v := ?_) (by kernel_rfl) rfl (by kernel_rfl) (fun _ _ _ h => h) (Or.inl ⟨by rfl, fun W hW => ?_⟩) (by with_reducible assumption) ?_
                rotate_left
                focus ((try dsimp only at hW); go_simp; try with_reducible rfl)
                refine wpAnyT_take 99 6 (v := ?_) (by kernel_rfl) rfl (by kernel_rfl) (fun _ _ _ h => h) (Or.inl ⟨by rfl, fun W hW => ?_⟩) (by with_reducible assumption) ?_
                rotate_left
                focus ((try dsimp only at hW); go_simp; try with_reducible rfl)
                simp only [Act.put, List.getElem_toArray, List.getElem_cons_zero, List.getElem_cons_succ, List.setIfInBounds_toArray, List.set_cons_zero, List.set_cons_succ]
                refine ⟨by kernel_rfl, ?_⟩
                simp only [List.drop_succ_cons, List.drop_zero]
                go_wp2_with fail
                refine HCA2.out.mono ?_
                rintro e w7 ⟨rfl, hm7, hb7⟩
                have HM7 := Lib.hid hm7
                have HB7 : Hid (Below x wd w7) := Lib.hid (HBK.out.trans ((Below.drew (Below.refl x wr)).trans hb7))
                clear hm7 hb7 HCA2 hS
                go_wp2_with fail
                exact ⟨⟨k + 1, by omega, by simp, HM7, HB7⟩, by simp [intOf]; omega⟩
              · obtain rfl : k = g := by omega
                go_wp2_with fail
                exact ⟨⟨i + 1, by omega, by simp, Lib.hid (by have := HMK.out; rwa [show n0 + i * k + k = n0 + (i + 1) * k by rw [Nat.succ_mul]; omega] at this), HBK⟩, by simp [intOf]; omega⟩
          · obtain rfl : i = g := by omega
            go_wp2_with fail
            go_loopw [134] (fun s134 wr => ∃ k : Nat, k ≤ i ∧ s134 = .int .i64 (k : Int) ∧ Hid (JM x (n0 + i * i) wr) ∧ Hid (Below x wd wr)) (fun s134 _ => i - (intOf s134).toNat)
            case atStart => exact ⟨0, Nat.zero_le _, rfl, HMI, HBI⟩
            case round =>
              obtain ⟨k, hk, rfl, HMK, HBK⟩ := hrel
              by_cases hkg : k < i
              · have hkgz : (k : Int) < (i : Int) := by omega
                have hk1 : IntKind.i64.wrap ((k : Int) + 1) = ((k + 1 : Nat) : Int) := IntWalk.i64_in _ (by omega)
                go_wp2_with fail
                exact ⟨⟨k + 1, by omega, by simp, HMK, HBK⟩, by simp [intOf]; omega⟩
              · obtain rfl : k = i := by omega
                have HVa2 := Lib.hid (HVa.out.cut hg2)
                have HVb2 := Lib.hid (HVb.out.cut hg2)
                have hcan : (k : Int) ≤ (ca : Int) := by have := HCA.out; omega
                have hcbn : (k : Int) ≤ (cb : Int) := by have := HCB.out; omega
                have HJF : Hid (∀ W, Below wr.heap.size wr W → JL x (pairsOf (keysR Q)) ((r :: K').drop k) W ∧ Below x wd W) := Lib.hid (fun W hW => by
                  obtain ⟨L, h1, h2, h3⟩ := HMK.out.ex
                  have h4 := h1.lt
                  exact ⟨⟨L, h1.keep hW, h2, by rw [h3]; exact HN0.out⟩, HBK.out.trans (hW.mono (by omega))⟩)
                have HKD : Hid ((∀ z ∈ (r :: K').drop k, okR z) ∧ ((r :: K').drop k).length ≤ 100 ∧ KeysUp ((r :: K').drop k)) := Lib.hid ⟨fun z hz => HK.out.1 z (List.mem_of_mem_drop hz), by rw [List.length_drop, HN.out]; omega, HG.out.2.2.2⟩
                have HPA2 : Hid (rowsP (Pa.drop k) = (r :: K').drop k) := Lib.hid (by have := HPa.out; unfold rowsP at this ⊢; rw [List.map_drop, this])
                have HPB2 : Hid (rowsP (Pb.drop k) = (r :: K').drop k) := Lib.hid (by have := HPb.out; unfold rowsP at this ⊢; rw [List.map_drop, this])
                have hlt : n - k < n := by omega
                clear HMK HBK HMI HBI HAD HM0 HBG
                go_upto_region 36 with fail
                go_quiet (fail)
                rw [Option.map_some, WideShapes.add_plain] at HVa2 HVb2
                obtain ⟨A1, hA1⟩ : ∃ A1 : Option Addr, A1 = if ca = k then some ⟨ba, oa, none⟩ else some ⟨ba, oa + k * 2, none⟩ := ⟨_, rfl⟩
                obtain ⟨A2, hA2⟩ : ∃ A2 : Option Addr, A2 = if cb = k then some ⟨bb, ob, none⟩ else some ⟨bb, ob + k * 2, none⟩ := ⟨_, rfl⟩
                rw [← hA1] at HVa2 ⊢
                rw [← hA2] at HVb2 ⊢
                clear hA1 hA2
                go_wp2_with fail
                have hdr := HJF.out _ (below_drewN (Below.refl _ wr) nq)
                exact ⟨⟨(r :: K').drop k, HKD, ⟨Pa.drop k, HPA2, HVa2⟩, ⟨Pb.drop k, HPB2, HVb2⟩, Lib.hid hdr.1, Lib.hid hdr.2⟩, by simp; omega⟩
end Go.Proofs.YtppnhdcnjbjibaaGreatDoor
