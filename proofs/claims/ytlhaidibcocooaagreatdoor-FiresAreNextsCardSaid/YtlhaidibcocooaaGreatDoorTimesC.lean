/- Times, the reference: a set is written as a list of numbers and ranges. (Begun; see NOTES.md.) -/
import Derived.Test.YtlhaidibcocooaaGreatDoorTimesB
namespace Go.Proofs.YtlhaidibcocooaaGreatDoor
open Go.RowKit

/-- numbers one by one -/
def singles (n j : Nat) : List ByteArray := (List.range' n j).map fun i => partB (i, i)
theorem singles_len (n j : Nat) : (singles n j).length = j := by simp [singles]
theorem singles_succ (n j : Nat) : singles n (j + 1) = singles n j ++ [partB (n + j, n + j)] := by simp [singles, List.range'_concat]
/-- a run of one or two numbers -/
theorem singles_end {set f n e : Nat} (hr : e = runEnd set n) (h1 : e < n + 2) (h2 : n < 64) (hf : 64 - n ≤ f + 1) : ∃ f2, 64 - (e + 1) ≤ f2 ∧ singles n (e + 1 - n) ++ (partsL set f2 (e + 1)).map partB = ((n, n) :: partsL set f (n + 1)).map partB := by
  obtain ⟨r1, r2, r3⟩ := runEnd_all set 63 n (by omega) h2
  rw [← hr] at r1 r2 r3
  by_cases h : e = n
  · subst h
    exact ⟨f, by omega, by rw [show e + 1 - e = 0 + 1 by omega, singles_succ]; simp [singles]⟩
  · have he : e = n + 1 := by omega
    subst he
    obtain ⟨f', rfl⟩ : ∃ f', f = f' + 1 := ⟨f - 1, by omega⟩
    refine ⟨f', by omega, ?_⟩
    have hb := r3 (n + 1) (by omega) (Nat.le_refl _)
    have hre : runEnd set (n + 1) = n + 1 := by
      rw [runEnd, if_pos ⟨by omega, hb⟩] at hr
      exact hr.symm
    rw [partsL, if_pos (by omega), if_pos hb, hre, if_pos (by omega), show n + 1 + 1 - n = 0 + 1 + 1 by omega, singles_succ, singles_succ]
    simp [singles]

set_option maxRecDepth 100000 in
set_option maxHeartbeats 1600000 in
theorem tList_any (set : Nat) (w : World) (hset : set < 18446744073709551616) :
    Calls Tryz.prog 55 #[.int .u64 (set : Int)] w fun e w' => e = .returned (.string ⟨(fieldT (listK set)).toArray⟩) ∧ Below w.heap.size w w' := by
  obtain ⟨ALL, hall⟩ : ∃ ALL, (partsL set 64 0).map partB = ALL := ⟨_, rfl⟩
  have HA := Lib.hid hall
  clear hall
  go_enter Tryz.func55, Tryz.ntmps55
  go_wp2_with fail
  go_loopw [3, 4] (fun s3 s4 wr => ∃ (v : Value) (n f : Nat) (L : List ByteArray), v = s3 ∧ s4 = .int .i64 (n : Int) ∧ n ≤ 64 ∧ 64 - n ≤ f ∧ L.length ≤ n ∧ Hid (L ++ (partsL set f n).map partB = ALL) ∧ Hid (OT w wr v L)) (fun _ s4 _ => 64 - (intOf s4).toNat)
  case atStart => exact ⟨_, 0, 64, [], rfl, rfl, by omega, by omega, by simp, HA.out, ⟨⟨rfl, .inl ⟨rfl, rfl⟩⟩, Below.refl _ _⟩⟩
  case round =>
    obtain ⟨v, n, f, L, rfl, rfl, hn, hf, hL, HE, HO⟩ := hrel
    by_cases hlt : n < 64
    · obtain ⟨i0, hi, hz0, hz1, hz2⟩ := info_parts info_text
      obtain ⟨f', rfl⟩ : ∃ f', f = f' + 1 := ⟨f - 1, by omega⟩
      have HM := Lib.hid (show L.length + 1 ≤ maxLen ∧ (L.length + 1) * 16 ≤ 140737488355328 from ⟨by unfold maxLen; omega, by omega⟩)
      have HE2 := HE.out
      rw [partsL, if_pos hlt] at HE2
      cases hb : set.testBit n with
      | false =>
        have hbit := bit_no hset hb
        rw [if_neg (by rw [hb]; decide)] at HE2
        have HE3 := Lib.hid HE2
        clear HE HE2 hb
        go_wp2_with fail
        exact ⟨⟨v, n + 1, f', L, rfl, by go_num, by omega, by omega, by omega, HE3, HO⟩, by simp [intOf]; omega⟩
      | true =>
        have hbit := bit_yes hset hb
        obtain ⟨dn, hdn0, hdns, hdnc⟩ := itoa_var (n := n) (by omega)
        have hdn := Lib.hid hdn0
        have HDn := Lib.hid hdnc
        clear hdnc hdn0
        have hltI : decide ((n : Int) < 64) = true := by rw [decide_eq_true_eq]; omega
        rw [if_pos hb] at HE2
        have HE3 := Lib.hid HE2
        clear HE HE2 hb
        go_wp2_with fail
        obtain ⟨wo, hwo⟩ : ∃ wo, wo = wr := ⟨_, rfl⟩
        subst hwo
        go_loopw [5] (fun s5 wx => ∃ e : Nat, s5 = .int .i64 (e : Int) ∧ n ≤ e ∧ e < 64 ∧ Hid (runEnd set e = runEnd set n) ∧ wx = wo) (fun s5 _ => 64 - (intOf s5).toNat)
        case atStart => exact ⟨n, rfl, Nat.le_refl _, hlt, rfl, rfl⟩
        case round =>
          obtain ⟨e, rfl, he1, he2, HR, rfl⟩ := hrel
          by_cases h63 : e < 63
          · have e5 : IntKind.i64.wrap ((e : Int) + 1) = (e : Int) + 1 := IntWalk.i64_in _ (by omega)
            have e6 : ((e : Int) + 1).toNat = e + 1 := by omega
            cases hb2 : set.testBit (e + 1) with
            | true =>
              have hbit2 := bit_yes hset hb2
              have hre : runEnd set (e + 1) = runEnd set n := by
                have := HR.out
                rw [runEnd, if_pos ⟨h63, hb2⟩] at this
                exact this
              have HR2 := Lib.hid hre
              clear hre HR
              go_wp2_with fail
              go_roundw
              case rel => exact ⟨e + 1, by go_num, by omega, by omega, HR2, trivial⟩
              case measure => simp [intOf]; omega
            | false =>
              have hbit2 := bit_no hset hb2
              have hre : e = runEnd set n := by
                have := HR.out
                rw [runEnd, if_neg (fun hc => by rw [hb2] at hc; exact absurd hc.2 (by decide))] at this
                exact this
              have HR := Lib.hid hre
              clear hre
              have hE2 := HE3.out
              rw [← HR.out] at hE2
              have e7 : IntKind.i64.wrap ((e : Int) - (n : Int)) = (e : Int) - (n : Int) := IntWalk.i64_in _ (by omega)
              by_cases h2 : e < n + 2
              · rw [if_pos h2] at hE2
                have HE4 := Lib.hid hE2
                have HRR := Lib.hid HR.out
                have hd : decide (2 ≤ (e : Int) - (n : Int)) = false := by rw [decide_eq_false_iff_not]; omega
                clear hE2 HE3 HR
                go_wp2_with fail
                obtain ⟨wp, hwp⟩ : ∃ wp, wp = wr := ⟨_, rfl⟩
                subst hwp
                go_loopw [3, 6] (fun s3 s6 wx => ∃ (u : Value) (k : Nat), u = s3 ∧ s6 = .int .i64 (k : Int) ∧ n ≤ k ∧ k ≤ e + 1 ∧ Hid (OT w wx u (L ++ singles n (k - n)))) (fun _ s6 _ => 65 - (intOf s6).toNat)
                case atStart => exact ⟨_, n, rfl, rfl, Nat.le_refl _, by omega, by rw [Nat.sub_self, show L ++ singles n 0 = L from by simp [singles]]; exact HO⟩
                case round =>
                  obtain ⟨u, k, rfl, rfl, hk1, hk2, HOk⟩ := hrel
                  by_cases hke : k ≤ e
                  · obtain ⟨dk, hdk0, hdks, hdkc⟩ := itoa_var (n := k) (by omega)
                    have hdk := Lib.hid hdk0
                    have HDk := Lib.hid hdkc
                    obtain ⟨LL, hLL0⟩ : ∃ LL, L ++ singles n (k - n) = LL := ⟨_, rfl⟩
                    have HLL := Lib.hid hLL0
                    have hLn : LL.length ≤ 200 := by rw [← hLL0, List.length_append, singles_len]; omega
                    rw [hLL0] at HOk
                    have HMk := Lib.hid (show LL.length + 1 ≤ maxLen ∧ (LL.length + 1) * 16 ≤ 140737488355328 from ⟨by unfold maxLen; omega, by omega⟩)
                    clear hdkc hdk0 hLL0
                    go_wp2_with fail
                    refine (HDk.out _).mono ?_
                    rintro e' w' ⟨rfl, hw'⟩
                    rw [hw']
                    clear hw'
                    go_wp2_with (at_builtin; refine wpList_append_own _ rfl _ _ 63 rfl w.heap.size 9 i0 (.string ⟨#[]⟩) 1 16 Tryz.underlying63 hi hz0 hz1 hz2 rfl (by decide) u LL.length _ rfl (HOk.out.alloc _).own _ 1 1 [.string dk] rfl rfl (World.news_of_block (heap_alloc_new _ _)) (fun z hz => by simp at hz; subst hz; rfl) HMk.out.1 HMk.out.2 (Nat.le_trans HOk.out.below.size (by simp)) ?_)
                    intro v6 w6 hown6 hg6 _
                    have HO6 := Lib.hid (OT.app (HOk.out.alloc _) hown6 hg6)
                    clear hown6 hg6
                    go_wp2_with fail
                    go_roundw
                    case rel => exact ⟨v6, k + 1, rfl, by go_num, by omega, by omega, by have := HO6.out; rw [← HLL.out, List.append_assoc, hdk.out, ← partB_one, show partB (k, k) = partB (n + (k - n), n + (k - n)) from by rw [show n + (k - n) = k by omega], ← singles_succ, show k - n + 1 = k + 1 - n by omega] at this; exact this⟩
                    case measure => simp [intOf]; omega
                  · have hkk : k = e + 1 := by omega
                    subst hkk
                    have hfin := singles_end (set := set) (f := f') (n := n) (e := e) HRR.out (by omega) (by omega) hf
                    have HFin := Lib.hid hfin
                    clear hfin
                    go_wp2_with fail
                    obtain ⟨f2, hf2, hl2⟩ := HFin.out
                    exact ⟨⟨u, e + 1, f2, L ++ singles n (e + 1 - n), rfl, by go_num, by omega, hf2, by rw [List.length_append, singles_len]; omega, by rw [List.append_assoc, hl2]; exact HE4.out, HOk⟩, by simp [intOf]; omega⟩
              · rw [if_neg h2] at hE2
                have HE4 := Lib.hid hE2
                obtain ⟨de, hde0, hdes, hdec⟩ := itoa_var (n := e) (by omega)
                have hde := Lib.hid hde0
                have HDe := Lib.hid hdec
                clear hdec hde0
                have hd : decide (2 ≤ (e : Int) - (n : Int)) = true := by rw [decide_eq_true_eq]; omega
                clear hE2 HE3 HR
                go_wp2_with fail
                refine (HDn.out _).mono ?_
                rintro e' w' ⟨rfl, hw'⟩
                rw [hw']
                clear hw'
                go_wp2_with fail
                refine (HDe.out _).mono ?_
                rintro e' w' ⟨rfl, hw'⟩
                rw [hw']
                clear hw'
                go_wp2_with (at_builtin; refine wpList_append_own _ rfl _ _ 63 rfl w.heap.size 9 i0 (.string ⟨#[]⟩) 1 16 Tryz.underlying63 hi hz0 hz1 hz2 rfl (by decide) v L.length _ rfl (HO.out.alloc _).own _ 1 1 [.string (dn ++ ⟨#[45]⟩ ++ de)] rfl rfl (World.news_of_block (heap_alloc_new _ _)) (fun z hz => by simp at hz; subst hz; rfl) HM.out.1 HM.out.2 (Nat.le_trans HO.out.below.size (by simp)) ?_)
                intro v6 w6 hown6 hg6 _
                have HO6 := Lib.hid (OT.app (HO.out.alloc _) hown6 hg6)
                clear hown6 hg6
                go_wp2_with fail
                exact ⟨⟨v6, e + 1, f', L ++ [(dn ++ ⟨#[45]⟩ ++ de)], rfl, by go_num, by omega, by omega, by rw [List.length_append]; simp; omega, by rw [List.append_assoc]; have := HE4.out; rw [List.map_cons, partB_two n e (by omega), ← hdn.out, ← hde.out] at this; exact this, HO6⟩, by simp [intOf]; omega⟩
          · have hre : e = runEnd set n := by
              have := HR.out
              rw [runEnd, if_neg (fun hc => h63 hc.1)] at this
              exact this
            have HR := Lib.hid hre
            clear hre
            have hE2 := HE3.out
            rw [← HR.out] at hE2
            have e7 : IntKind.i64.wrap ((e : Int) - (n : Int)) = (e : Int) - (n : Int) := IntWalk.i64_in _ (by omega)
            by_cases h2 : e < n + 2
            · rw [if_pos h2] at hE2
              have HE4 := Lib.hid hE2
              have HRR := Lib.hid HR.out
              have hd : decide (2 ≤ (e : Int) - (n : Int)) = false := by rw [decide_eq_false_iff_not]; omega
              clear hE2 HE3 HR
              go_wp2_with fail
              obtain ⟨wp, hwp⟩ : ∃ wp, wp = wr := ⟨_, rfl⟩
              subst hwp
              go_loopw [3, 6] (fun s3 s6 wx => ∃ (u : Value) (k : Nat), u = s3 ∧ s6 = .int .i64 (k : Int) ∧ n ≤ k ∧ k ≤ e + 1 ∧ Hid (OT w wx u (L ++ singles n (k - n)))) (fun _ s6 _ => 65 - (intOf s6).toNat)
              case atStart => exact ⟨_, n, rfl, rfl, Nat.le_refl _, by omega, by rw [Nat.sub_self, show L ++ singles n 0 = L from by simp [singles]]; exact HO⟩
              case round =>
                obtain ⟨u, k, rfl, rfl, hk1, hk2, HOk⟩ := hrel
                by_cases hke : k ≤ e
                · obtain ⟨dk, hdk0, hdks, hdkc⟩ := itoa_var (n := k) (by omega)
                  have hdk := Lib.hid hdk0
                  have HDk := Lib.hid hdkc
                  obtain ⟨LL, hLL0⟩ : ∃ LL, L ++ singles n (k - n) = LL := ⟨_, rfl⟩
                  have HLL := Lib.hid hLL0
                  have hLn : LL.length ≤ 200 := by rw [← hLL0, List.length_append, singles_len]; omega
                  rw [hLL0] at HOk
                  have HMk := Lib.hid (show LL.length + 1 ≤ maxLen ∧ (LL.length + 1) * 16 ≤ 140737488355328 from ⟨by unfold maxLen; omega, by omega⟩)
                  clear hdkc hdk0 hLL0
                  go_wp2_with fail
                  refine (HDk.out _).mono ?_
                  rintro e' w' ⟨rfl, hw'⟩
                  rw [hw']
                  clear hw'
                  go_wp2_with (at_builtin; refine wpList_append_own _ rfl _ _ 63 rfl w.heap.size 9 i0 (.string ⟨#[]⟩) 1 16 Tryz.underlying63 hi hz0 hz1 hz2 rfl (by decide) u LL.length _ rfl (HOk.out.alloc _).own _ 1 1 [.string dk] rfl rfl (World.news_of_block (heap_alloc_new _ _)) (fun z hz => by simp at hz; subst hz; rfl) HMk.out.1 HMk.out.2 (Nat.le_trans HOk.out.below.size (by simp)) ?_)
                  intro v6 w6 hown6 hg6 _
                  have HO6 := Lib.hid (OT.app (HOk.out.alloc _) hown6 hg6)
                  clear hown6 hg6
                  go_wp2_with fail
                  go_roundw
                  case rel => exact ⟨v6, k + 1, rfl, by go_num, by omega, by omega, by have := HO6.out; rw [← HLL.out, List.append_assoc, hdk.out, ← partB_one, show partB (k, k) = partB (n + (k - n), n + (k - n)) from by rw [show n + (k - n) = k by omega], ← singles_succ, show k - n + 1 = k + 1 - n by omega] at this; exact this⟩
                  case measure => simp [intOf]; omega
                · have hkk : k = e + 1 := by omega
                  subst hkk
                  have hfin := singles_end (set := set) (f := f') (n := n) (e := e) HRR.out (by omega) (by omega) hf
                  have HFin := Lib.hid hfin
                  clear hfin
                  go_wp2_with fail
                  obtain ⟨f2, hf2, hl2⟩ := HFin.out
                  exact ⟨⟨u, e + 1, f2, L ++ singles n (e + 1 - n), rfl, by go_num, by omega, hf2, by rw [List.length_append, singles_len]; omega, by rw [List.append_assoc, hl2]; exact HE4.out, HOk⟩, by simp [intOf]; omega⟩
            · rw [if_neg h2] at hE2
              have HE4 := Lib.hid hE2
              obtain ⟨de, hde0, hdes, hdec⟩ := itoa_var (n := e) (by omega)
              have hde := Lib.hid hde0
              have HDe := Lib.hid hdec
              clear hdec hde0
              have hd : decide (2 ≤ (e : Int) - (n : Int)) = true := by rw [decide_eq_true_eq]; omega
              clear hE2 HE3 HR
              go_wp2_with fail
              refine (HDn.out _).mono ?_
              rintro e' w' ⟨rfl, hw'⟩
              rw [hw']
              clear hw'
              go_wp2_with fail
              refine (HDe.out _).mono ?_
              rintro e' w' ⟨rfl, hw'⟩
              rw [hw']
              clear hw'
              go_wp2_with (at_builtin; refine wpList_append_own _ rfl _ _ 63 rfl w.heap.size 9 i0 (.string ⟨#[]⟩) 1 16 Tryz.underlying63 hi hz0 hz1 hz2 rfl (by decide) v L.length _ rfl (HO.out.alloc _).own _ 1 1 [.string (dn ++ ⟨#[45]⟩ ++ de)] rfl rfl (World.news_of_block (heap_alloc_new _ _)) (fun z hz => by simp at hz; subst hz; rfl) HM.out.1 HM.out.2 (Nat.le_trans HO.out.below.size (by simp)) ?_)
              intro v6 w6 hown6 hg6 _
              have HO6 := Lib.hid (OT.app (HO.out.alloc _) hown6 hg6)
              clear hown6 hg6
              go_wp2_with fail
              exact ⟨⟨v6, e + 1, f', L ++ [(dn ++ ⟨#[45]⟩ ++ de)], rfl, by go_num, by omega, by omega, by rw [List.length_append]; simp; omega, by rw [List.append_assoc]; have := HE4.out; rw [List.map_cons, partB_two n e (by omega), ← hdn.out, ← hde.out] at this; exact this, HO6⟩, by simp [intOf]; omega⟩
    · have hnn : n = 64 := by omega
      subst hnn
      have hEE : L = ALL := by
        have h := HE.out
        cases f with
        | zero => simpa [partsL] using h
        | succ f => simpa [partsL] using h
      subst hEE
      have hsm : ∀ x ∈ L, x.size ≤ 100000 := fun x hx => by
        have h := HA.out
        rw [← h] at hx
        obtain ⟨q, hq, rfl⟩ := List.mem_map.1 hx
        have h9 := partsL_range set 64 0 q hq
        have := partB_small (p := q) (by omega) (by omega)
        omega
      have HJ := Lib.hid (join_any w wr v L ⟨#[44]⟩ HO.out (by omega) hsm (by decide))
      have HBo := Lib.hid HO.out.below
      clear hsm HE
      go_wp2_with fail
      refine HJ.out.mono ?_
      rintro e w2 ⟨rfl, hb2⟩
      go_wp2_with fail
      go_ret
      exact ⟨ret_str (by rw [← parts_text, HA.out]), HBo.out.trans (hb2.mono HBo.out.size)⟩

end Go.Proofs.YtlhaidibcocooaaGreatDoor
