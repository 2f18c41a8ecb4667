/- DrawingShows: what Draw sends for the views of a line, key by key, leaves on a terminal what View of the last line tells. No condition. -/
import Derived.Test.YtokmiommhfbkeaaGreatDoorShowHeld
import Derived.Deep.RegionHeld3
import Derived.Deep.DeepCutAuto
import Derived.Test.YtokmiommhfbkeaaGreatDoorClose
import Derived.Test.YtokmiommhfbkeaaGreatDoorCards
import Derived.Test.YtokmiommhfbkeaaGreatDoorTie
import Derived.SliceStrings
import Derived.Deep.Slices
import Derived.OpenShut
import Derived.DataShut
import Derived.SizedLaws
import Derived.Lib.LaidU8T
namespace Go.Proofs.YtokmiommhfbkeaaGreatDoor
open Go.RowKit

set_option maxHeartbeats 800000 in
theorem withinShow (n : Int) : ∃ v : Int, 2 ≤ v ∧ v ≤ 200 ∧ ∀ w, Calls Tryz.prog 8 #[.int .i64 n, .int .i64 2, .int .i64 200] w fun e w' => e = .returned (.int .i64 v) ∧ w' = w := by
  have ht := tmod_lt' n 199 (by omega)
  have a1 := Int.emod_nonneg (n.tmod 199) (show (199 : Int) ≠ 0 by omega)
  have a2 := Int.emod_lt_of_pos (n.tmod 199) (show (0 : Int) < 199 by omega)
  refine ⟨2 + n.tmod 199 % 199, by omega, by omega, fun w => ?_⟩
  go_enter Tryz.func8, Tryz.ntmps8
  go_wp2
  go_ret
  exact ⟨ret_int rfl, rfl⟩

set_option maxHeartbeats 800000 in
theorem keep_any (W : World) (x : Nat) (hx : x ≤ 1114111) : Calls Tryz.prog 19 #[.int .i32 (x : Int)] W fun e w' => e = .returned (.int .i32 (keepR x)) ∧ w' = W := by
  unfold keepR
  by_cases h1 : x < 32
  · rw [if_pos (by omega)]
    have d1 : decide ((x : Int) < 32) = true := by rw [decide_eq_true_iff]; omega
    go_enter Tryz.func19, Tryz.ntmps19
    go_wp2
    go_ret
    exact ⟨rfl, rfl⟩
  · have d1 : decide ((x : Int) < 32) = false := by rw [decide_eq_false_iff_not]; omega
    by_cases h2 : 126 < x
    · rw [if_pos (by omega)]
      have d2 : decide ((126 : Int) < (x : Int)) = true := by rw [decide_eq_true_iff]; omega
      go_enter Tryz.func19, Tryz.ntmps19
      go_wp2
      go_ret
      exact ⟨rfl, rfl⟩
    · rw [if_neg (by omega)]
      have d2 : decide ((126 : Int) < (x : Int)) = false := by rw [decide_eq_false_iff_not]; omega
      go_enter Tryz.func19, Tryz.ntmps19
      go_wp2
      go_ret
      exact ⟨rfl, rfl⟩
abbrev U8 (w : World) : Prop := Lib.Utf8Tabs 0 1 w
theorem map_any (s : ByteArray) (w : World) (hs : s.size ≤ 60) (hT : U8 w) :
    Calls Tryz.prog 18 #[.func (.func 19) #[] #[], .string s] w fun e w' => ∃ p : ByteArray, e = .returned (.string p) ∧ rowB p.data.toList = true ∧ p.size ≤ 60 ∧ Below w.heap.size w w' := by
  refine (Tryz.strings_Map_grows 19 #[] (enters_of Tryz.func19 (by kernel_rfl) rfl) keepR s w (by omega)
    (fun W x hx _ => (keep_any W x hx).mono fun e w' h => ⟨h.1, by rw [h.2]; exact Below.refl _ _⟩) (fun x hx => ?_) hT).mono ?_
  · unfold keepR; split <;> omega
  · rintro e w' ⟨rfl, hb⟩
    have h := keep_row s.data.toList.length s.data.toList
    refine ⟨_, rfl, (rowB_iff _).2 h.1, ?_, hb⟩
    rw [← size_toList]
    have h2 : (Lib.mapD keepR s.data.toList).length ≤ s.data.toList.length := h.2
    rw [size_toList] at h2
    exact Nat.le_trans h2 hs

theorem pairInfo : (Tryz.prog.info? 38).map (fun i => (i.zero, i.size, i.bytes)) = some (some (.agg #[.int .i64 0, .int .i64 0]), 2, 16) := by kernel_rfl

/-- what the law has made of its keys -/
def PKeys (w0 : World) (L : List (Int × Int)) (s39 s40 s41 : Value) (wx : World) : Prop :=
  ∃ b5 off5 c, s39 = .slice (some ⟨b5, off5, none⟩) L.length c ∧ L.length ≤ c ∧ s40 = .int .i64 (L.length : Int) ∧ s41 = .int .i64 0 ∧ PrC b5 off5 L wx ∧ Below w0.heap.size w0 wx ∧ w0.heap.size ≤ b5
theorem KP.at {w : World} {A : Option Addr} {n c : Nat} {p : Int × Int} {L : List (Int × Int)} (h : KP w (.slice A n c) (p :: L)) : ∃ b off, A = some ⟨b, off, none⟩ ∧ n = (p :: L).length ∧ n ≤ c ∧ PrC b off (p :: L) w := by
  obtain ⟨A', c', e, hc, h⟩ := h
  injection e with e1 e2 e3
  subst e1 e3
  obtain ⟨b, off, rfl, hp⟩ := h (by simp)
  exact ⟨b, off, rfl, e2, by rw [e2]; exact hc, hp⟩

set_option maxRecDepth 100000 in
set_option maxHeartbeats 3200000 in
theorem show_walk (v : Value) (n : Nat) (prompt : ByteArray) (wide : Int) (w : World) (hv : KQ w v n) (hn : n ≤ 9223372036854775807) (hd : Deb w) (hp : Pow w) (hu : U8 w) (hs : prompt.size ≤ 9223372036854775807) :
    Calls Tryz.prog 6 #[v, .string prompt, .int .i64 wide] w fun e w' => e = .returned (.bool true) ∧ Below w.heap.size w w' := by
  obtain ⟨L0, hk, hlim, hL0⟩ := KP.of hv
  subst hL0
  obtain ⟨q, hq⟩ : ∃ q : Nat, min (L0.length : Int) 120 = (q : Int) := ⟨min L0.length 120, by omega⟩
  obtain ⟨m, hm⟩ : ∃ m : Nat, min (prompt.size : Int) 60 = (m : Int) := ⟨min prompt.size 60, by omega⟩
  have hm1 : m ≤ prompt.size := by omega
  have hm2 : m ≤ 60 := by omega
  have hq1 : q ≤ L0.length := by omega
  have hq2 : q ≤ 120 := by omega
  obtain ⟨A, c, rfl, hc, hz⟩ := id hk
  have hq3 : q ≤ c := by omega
  have HK := Lib.hid (hk.cut q hq1)
  have hKl : (L0.take q).length = q := by rw [List.length_take]; omega
  have HLM := Lib.hid (show Lim (L0.take q) from fun p hp => hlim p (List.mem_of_mem_take hp))
  obtain ⟨W, hW1, hW2, hW⟩ := withinShow wide
  have HW := Lib.hid hW
  have HD := Lib.hid hd
  have HP := Lib.hid hp
  have HU := Lib.hid hu
  have HLM2 := Lib.hid (show Lim ((0, 0) :: L0.take q) from fun p hp => by
    rcases List.mem_cons.1 hp with rfl | h
    · exact ⟨by decide, by decide⟩
    · exact HLM.out p h)
  clear hz hk hv hlim hW hd hp hu HLM
  generalize L0.take q = L at *
  generalize L0.length = n at *
  go_enter Tryz.func6, Tryz.ntmps6
  go_wp2_with fail
  refine (landed_any w).mono ?_
  rintro e w1 ⟨rfl, hb1⟩
  go_wp2_with fail
  refine (map_any _ w1 (by rw [ByteArray.size_extract]; omega) (Utf8Tabs_below HU.out hb1)).mono ?_
  rintro e w2 ⟨p, rfl, hrow, hps, hb2⟩
  have HRW := Lib.hid hrow
  have HB2 := Lib.hid (hb1.trans (hb2.mono hb1.size))
  clear hb1 hb2 hrow hm
  go_wp2_with fail
  refine (HW.out _).mono ?_
  rintro e w3 ⟨rfl, hw3⟩
  subst hw3
  go_upto_region 8 with fail
  have HBl := Lib.hid (show Blk ((w3.alloc (.cells zeroL 37)).alloc (.cells #[.slice none 0 0, .int .i64 0] 52)) w3.heap.size 37 zeroL from (Below.heap_alloc _ _ _ (by simp)).trans (heap_alloc_new w3 _))
  have HBs := Lib.hid (show Blk ((w3.alloc (.cells zeroL 37)).alloc (.cells #[.slice none 0 0, .int .i64 0] 52)) (w3.heap.size + 1) 52 #[.slice none 0 0, .int .i64 0] from blk_new_at2 (by simp) _ _)
  have HB4 := Lib.hid ((HB2.out.alloc HB2.out.size (.cells zeroL 37)).alloc (by have := HB2.out.size; simp; omega) (.cells #[.slice none 0 0, .int .i64 0] 52))
  have hsz : ((w3.alloc (.cells zeroL 37)).alloc (.cells #[.slice none 0 0, .int .i64 0] 52)).heap.size = w3.heap.size + 1 + 1 := by simp
  have HB0 := Lib.hid HB2.out.size
  generalize (w3.alloc (.cells zeroL 37)).alloc (.cells #[.slice none 0 0, .int .i64 0] 52) = w4 at *
  generalize w3.heap.size = B at *
  have HSZ := Lib.hid hsz
  clear hsz
  have HK4 := Lib.hid (HK.out.keep HB4.out)
  clear HK
  go_cut [39, 40, 41] (fun s39 s40 s41 wx => PKeys w4 ((0, 0) :: L) s39 s40 s41 wx)
  case first =>
    by_cases hz : 0 < q
    · obtain ⟨A', c', e, _, h⟩ := HK4.out
      injection e with e1 e2 e3
      subst e1 e3
      clear e2
      obtain ⟨b, off, rfl, hbl, hcell⟩ := h (by omega)
      obtain ⟨i0, hi, hz0, hz1, hz2⟩ := info_parts pairInfo
      have HLT := Lib.hid (pr_cells (w := w4.alloc (.cells #[.int .i64 0, .int .i64 0] 38)) (PrC.keep ⟨hbl, hcell⟩ ((Below.refl _ w4).alloc (Nat.le_refl _) (.cells #[.int .i64 0, .int .i64 0] 38))).2)
      have hm := Lib.hid (World.ownsRow_lit (base := w4.heap.size) (e := 38) (size := 2) w4 #[.int .i64 0, .int .i64 0] 1 (Nat.le_refl _) (by unfold maxLen; omega) rfl)
      clear hcell h
      go_wp2_with (at_builtin; refine wpList_append_own _ rfl _ _ 34 rfl w4.heap.size 38 i0 (.agg #[.int .i64 0, .int .i64 0]) 2 16 Tryz.underlying34 hi hz0 hz1 hz2 rfl (by decide) _ 1 [.int .i64 0, .int .i64 0] rfl hm.out ⟨b, off, none⟩ q c (prC L) rfl (by rw [prC_len, hKl]) HLT.out (prC_one L) ?c3 ?c4 (by simp) ?_)
      case c3 => unfold maxLen; omega
      case c4 => omega
      intro v5 w5 hown5 hg5 _
      have HB5 := Lib.hid (((Below.refl _ w4).alloc (Nat.le_refl _) (.cells #[.int .i64 0, .int .i64 0] 38)).grown hg5 (by simp) (fun g hg => by simp [Value.ownBlock] at hg; omega))
      have hlt5 := fun k h => (hown5.lt k h).1
      have hp5 : KP w5 v5 ((0, 0) :: L) := KP.of_own (n := 1 + q) (by simpa [prC] using hown5)
      obtain ⟨A5, c5, rfl, hc5, hp5⟩ := hp5
      obtain ⟨b5, off5, rfl, hpr5⟩ := hp5 (by simp)
      have HP5 := Lib.hid hpr5
      have HL5 := Lib.hid (hlt5 b5 rfl)
      have hL1 : ((0, 0) :: L).length = q + 1 := by simp [hKl]
      clear hown5 hg5 hlt5 hpr5 hp5
      rw [hL1] at hc5 ⊢
      go_wp2_with fail
      go_meet
      case rel => exact ⟨b5, off5, c5, by rw [hL1], by rw [hL1]; exact hc5, by rw [hL1]; rfl, rfl, HP5.out, HB5.out, HL5.out⟩
    · have hq0 : q = 0 := by omega
      have hL0 : L = [] := List.length_eq_zero_iff.1 (by omega)
      subst hL0
      subst hq0
      have HPR := Lib.hid (show PrC w4.heap.size 0 [(0, 0)] (w4.alloc (.cells #[.int .i64 0, .int .i64 0] 38)) from ⟨by simp, fun j hj => by
        have h2 := two_cells w4 (.int .i64 0) (.int .i64 0) 38
        have hj0 : j = 0 := by simp at hj; omega
        subst hj0
        exact h2⟩)
      cases A
      all_goals
        go_wp2_with fail
        go_meet
      all_goals exact ⟨w4.heap.size, 0, 1, rfl, Nat.le_refl _, rfl, rfl, HPR.out, (Below.refl _ w4).alloc (Nat.le_refl _) _, Nat.le_refl _⟩
  case rest =>
    obtain ⟨b5, off5, c5, rfl, hc5, rfl, rfl, hpc, hb5, hge⟩ := hcut
    have HPC := Lib.hid hpc
    have HS0 := Lib.hid (show Scr w wc B b5 0 emptyL (.slice none 0 0) (.slice none 0 0) ([], 0) ⟨#[]⟩ 0 from
      ⟨kept_empty, HBl.out.below hb5 HBl.out.lt, ES.nil _, (fun k hk => by cases hk), HBs.out.below hb5 HBs.out.lt, World.ownsRow_nil _ _ _ _, (fun k hk => by cases hk), (fun h => by simp [emptyL] at h), (by have := HSZ.out; omega), hpc.1, rr_empty, ⟨fun _ => rfl, rfl⟩, Nat.zero_le _, HB4.out.trans (hb5.mono HB4.out.size)⟩)
    have hLn : ((0, 0) :: L).length ≤ 121 := by simp [hKl]; omega
    clear hpc hb5 hge HBl HBs HSZ HK4
    generalize (0, 0) :: L = K at *
    clear hKl hq hq1 hq2 hq3
    go_wp2_with fail
    go_loopw [10, 11, 41] (fun s10 s11 i wr => ∃ (k : Nat) (l : EL) (bv v : Value) (x : SC) (row : ByteArray) (col : Nat), k ≤ K.length ∧ s10 = .string row ∧ s11 = .int .i64 (col : Int) ∧ i = .int .i64 (k : Int) ∧ Hid (Scr w wr B b5 k l bv v x row col) ∧ Hid (PrC b5 off5 K wr)) (fun _ _ i _ => K.length - (intOf i).toNat)
    case atStart => exact ⟨0, emptyL, .slice none 0 0, .slice none 0 0, ([], 0), ⟨#[]⟩, 0, Nat.zero_le _, rfl, rfl, rfl, HS0.out, HPC.out⟩
    case round =>
      obtain ⟨k, l, bv, v, x, row, col, hk, rfl, rfl, rfl, HSc, HPr⟩ := hrel
      by_cases hlt : k < K.length
      · obtain ⟨⟨x0, y0⟩, hxy⟩ : ∃ q, K[k] = q := ⟨_, rfl⟩
        have hlm := HLM2.out K[k] (List.getElem_mem hlt)
        have hx1 := (HPr.out.2 k hlt).1
        have hy3 := (HPr.out.2 k hlt).2
        rw [hxy] at hlm hx1 hy3
        obtain ⟨kind, byte, hkey⟩ := keyOf_det x0 y0 hlm.1 hlm.2
        have HK := Lib.hid hkey
        obtain ⟨r, hr⟩ : ∃ r, pressL l [] kind byte = r := ⟨_, rfl⟩
        have HST := Lib.hid (show r.2 = 0 → Kept r.1 from fun h => by rw [← hr] at h ⊢; exact HSc.out.kept.step h)
        have HPs := Lib.hid (fun W v (hv : ES W v l.before) => by
          have := press_any l v (.slice none 0 0) [] kind byte W hv ⟨none, 0, rfl, Nat.le_refl _, fun hh => by simp at hh⟩ HSc.out.kept.fit (by simp) (by simp)
          rw [hr] at this; exact this)
        clear hr hxy hlm hkey
        dsimp only at hx1 hy3
        go_wp2_with fail
        have HL0 := Lib.hid (HSc.out.keep ((Below.refl _ wr).alloc (Nat.le_refl _) (.cells #[.int .i64 x0, .int .i64 y0] 38)))
        have HPr0 := Lib.hid (HPr.out.keep ((Below.refl _ wr).alloc (Nat.le_refl _) (.cells #[.int .i64 x0, .int .i64 y0] 38)))
        have hp0 := two_cells wr (.int .i64 x0) (.int .i64 y0) 38
        have hpl : wr.heap.size < (wr.alloc (.cells #[.int .i64 x0, .int .i64 y0] 38)).heap.size := by simp
        generalize wr.alloc (.cells #[.int .i64 x0, .int .i64 y0] 38) = wa at *
        generalize wr.heap.size = g at *
        obtain ⟨hp0, hp1⟩ := hp0
        obtain ⟨cB, zB⟩ := HL0.out.box.cell
        have HB1 := Lib.hid HL0.out.box.lt
        have HG := Lib.hid hpl
        have HN1 : Hid (wa.cell? ⟨B, 0, none⟩ = some (.string l.text) ∧ wa.cell? ⟨B, 1, none⟩ = some (.int .i64 l.at') ∧ wa.cell? ⟨B, 2, none⟩ = some (.string l.killed) ∧ wa.cell? ⟨B, 3, none⟩ = some (.bool l.killing) ∧ wa.cell? ⟨B, 4, none⟩ = some bv ∧ wa.cell? ⟨B, 5, none⟩ = some (.int .i64 l.place) ∧ wa.cell? ⟨B, 6, none⟩ = some (.string l.begun) ∧ wa.cell? ⟨g, 0, none⟩ = some (.int .i64 x0) ∧ wa.cell? ⟨g, 1, none⟩ = some (.int .i64 y0)) := Lib.hid ⟨cB 0, cB 1, cB 2, cB 3, cB 4, cB 5, cB 6, hp0, hp1⟩
        clear hx1 hy3 cB zB hpl hp0 hp1 HSc HPr
        go_upto_region 11 with fail
        go_cut [14, 15] (fun s9 s10 wx => Told wa wx r s9 s10)
        case first =>
          go_region_held3 (fun W => W.cell? ⟨B, 0, none⟩ = some (.string l.text) ∧ W.cell? ⟨B, 1, none⟩ = some (.int .i64 l.at') ∧ W.cell? ⟨B, 2, none⟩ = some (.string l.killed) ∧ W.cell? ⟨B, 3, none⟩ = some (.bool l.killing) ∧ W.cell? ⟨B, 4, none⟩ = some bv ∧ W.cell? ⟨B, 5, none⟩ = some (.int .i64 l.place) ∧ W.cell? ⟨B, 6, none⟩ = some (.string l.begun) ∧ W.cell? ⟨g, 0, none⟩ = some (.int .i64 x0) ∧ W.cell? ⟨g, 1, none⟩ = some (.int .i64 y0)) (first | (have hz9 := nine hbw3 HB1.out HG.out HN1.out; with_reducible assumption) | (have hz9 := nine (below_seven2 hbw3 HG9.out (.string r.1.text) (.int .i64 r.1.at') (.string r.1.killed) (.bool r.1.killing) (.slice A3 r.1.before.length c3) (.int .i64 r.1.place) (.string r.1.begun)) HB1.out HG.out HN1.out; with_reducible assumption) | (have hz9 := nine hbw2 HB1.out HG.out HN1.out; with_reducible assumption) | (with_reducible exact nine (hbw3.alloc hbw3.size _) HB1.out HG.out HN1.out) | (with_reducible exact nine (hbw2.alloc hbw2.size _) HB1.out HG.out HN1.out) | (with_reducible exact nine ((Below.refl _ wa).drew) HB1.out HG.out HN1.out) | (with_reducible exact nine (((Below.refl _ wa).alloc (Nat.le_refl _) _).drew) HB1.out HG.out HN1.out) | (with_reducible exact nine (((Below.refl _ wa).drew).alloc (Nat.le_refl _) _) HB1.out HG.out HN1.out))
            (first
              | (go_at_call 15; refine (HK.out _).mono ?_; rintro e w2 ⟨rfl, hb2⟩; have hbw2 : Below wa.heap.size wa w2 := (by first | (with_reducible exact below_of_drew hb2) | (with_reducible exact below_of_alloc_drew hb2)); first | (have K9 : Blk w2 wa.heap.size 37 zeroL := (by with_reducible exact new_kept_drew hb2)) | (have K9 := True.intro))
              | (go_at_call 14; refine (HPs.out _ bv ?es).mono ?_; (case es => first | (with_reducible exact (HL0.out.keep hbw2).es) | (with_reducible exact (HL0.out.keep (hbw2.alloc hbw2.size _)).es)); rintro e w3 ⟨v3, rfl, hes3, hfr3, hb3⟩; have hes3' := hes3; obtain ⟨A3, c3, rfl, _, _⟩ := hes3'; have HE3 := Lib.hid hes3; have hbw3 : Below wa.heap.size wa w3 := (by first | (with_reducible exact below_step hbw2 hb3) | (with_reducible exact below_step_alloc hbw2 hb3)); first | (have K93 : Blk w3 wa.heap.size 37 zeroL := (by with_reducible exact blk_keepB K9 hb3); obtain ⟨g9, hg9⟩ : ∃ g9, g9 = wa.heap.size := ⟨_, rfl⟩; have HG9 : Hid (wa.heap.size ≤ g9) := Lib.hid (by rw [hg9]; exact Nat.le_refl _); have HF9 : Hid (∀ k, (Value.slice A3 r.1.before.length c3).ownBlock = some k → g9 < k) := Lib.hid (fun k hk => by rw [hg9]; exact Nat.lt_of_lt_of_le (Blk.lt K9) (hfr3 k hk)); rw [← hg9] at K93; rw [← hg9]; have KK9 := Lib.hid K93; obtain ⟨c9, z9⟩ := Blk.cell K93; clear K93 K9 hg9 hfr3 hes3) | (have K93 : Blk w3 w2.heap.size 37 zeroL := (by with_reducible exact new_kept hb3); obtain ⟨g9, hg9⟩ : ∃ g9, g9 = w2.heap.size := ⟨_, rfl⟩; have HG9 : Hid (wa.heap.size ≤ g9) := Lib.hid (by rw [hg9]; exact hbw2.size); have HF9 : Hid (∀ k, (Value.slice A3 r.1.before.length c3).ownBlock = some k → g9 < k) := Lib.hid (fun k hk => by rw [hg9]; exact Nat.lt_of_lt_of_le (show w2.heap.size < (w2.alloc (.cells zeroL 37)).heap.size by simp) (hfr3 k hk)); rw [← hg9] at K93; rw [← hg9]; have KK9 := Lib.hid K93; obtain ⟨c9, z9⟩ := Blk.cell K93; clear K93 K9 hg9 hfr3 hes3) | (have HF9 := Lib.hid (fun k hk => Nat.le_trans hbw2.size (hfr3 k hk)); clear hfr3 hes3)))
          all_goals (go_wp2_with fail; go_meet)
          · exact told_new HE3.out HF9.out hbw3
          · exact told_set HG9.out KK9.out HE3.out HF9.out hbw3
          · exact told_set HG9.out KK9.out HE3.out HF9.out hbw3
        case rest =>
          obtain ⟨g3, v3, rfl, rfl, K3, hes3, hfr3, hg3, hb3⟩ := hcut
          obtain ⟨wb, hwb⟩ : ∃ wb, wb = wc := ⟨_, rfl⟩
          subst hwb
          have HL1 := Lib.hid (HL0.out.keep hb3)
          have HPr1 := Lib.hid (HPr0.out.keep hb3)
          have HE3 := Lib.hid hes3
          have HF3 := Lib.hid (fun k hk => Nat.lt_of_lt_of_le HL0.out.scr.lt (hfr3 k hk))
          have HAP := Lib.hid (show 0 < r.1.before.length → ∀ k, v3.ownBlock = some k → some k ≠ v.ownBlock from fun _ j hj e => by
            have h1 := (HL0.out.own.lt j e.symm).2
            have h2 := hfr3 j hj
            omega)
          have hne3 : g3 ≠ B := by have := HB1.out; omega
          obtain ⟨A3, c3, rfl, _, _⟩ := hes3
          obtain ⟨d3, z3⟩ := K3.cell
          have l3 := K3.lt
          obtain ⟨cB, zB⟩ := HL1.out.box.cell
          have lB := HL1.out.box.lt
          clear hfr3 hg3 K3 hb3 z3 HPs HK HN1 HG HPr0 HL0 HB1
          unfold lnC at d3 cB
          go_upto_if 56 with fail
          go_cut [] (fun wx => ∃ (l' : EL) (bv' : Value), Hid (Scr w wx B b5 k l' bv' v x row col) ∧ Hid (PrC b5 off5 K wx))
          case first =>
            by_cases hr : r.2 = 0
            · have er : (r.2 == 0) = true := by rw [beq_iff_eq]; exact hr
              have HM := Lib.hid (HST.out hr)
              clear hr
              go_wp2_with fail
              go_meet
              case rel => exact ⟨r.1, .slice A3 r.1.before.length c3, HL1.out.line HB0.out HM.out HE3.out HF3.out HAP.out, HPr1.out.seven (by have := HL1.out.deep; omega) r.1 _⟩
            · have er : (r.2 == 0) = false := by rw [beq_eq_false_iff_ne]; exact hr
              clear hr
              go_wp2_with fail
              go_meet
              case rel => exact ⟨l, bv, HL1.out, HPr1.out⟩
          case rest =>
            obtain ⟨l', bv', HS2, HPr2⟩ := hcut
            obtain ⟨wd, hwd⟩ : ∃ wd, wd = wc := ⟨_, rfl⟩
            subst hwd
            obtain ⟨a, cc, tt, hat, haz, hview, hrr, htt, hcc⟩ := view_tells HS2.out.kept HRW.out (by omega) hW1 hW2
            have HA := Lib.hid hat
            have HV := Lib.hid hview
            have HRR := Lib.hid hrr
            have htt2 : ¬ W < (tt.size : Int) := by omega
            have hcc2 : ¬ W ≤ (cc : Int) := by omega
            have htt3 : decide (W < (tt.size : Int)) = false := decide_eq_false htt2
            have hcc3 : decide (W ≤ (cc : Int)) = false := decide_eq_false hcc2
            obtain ⟨A4, c4, hbv, _, _⟩ := HS2.out.es
            subst hbv
            obtain ⟨cB, zB⟩ := HS2.out.box.cell
            unfold lnC at cB
            clear hat hview hrr HL1 HPr1 HE3 HF3 HAP HST zB
            go_wp2_with fail
            refine (view_line p l' _ a W _ (HD.out.keep HS2.out.below) (by omega) HA.out HS2.out.es HS2.out.kept.fit (HS2.out.kept.pressed 200 (by omega)) HS2.out.kept.good.text.1 haz (by rw [← HA.out]; exact HS2.out.kept.line) HRW.out hW1 hW2).mono ?_
            rintro e w5 ⟨rfl, hb5⟩
            rw [HV.out]
            have HS5 := Lib.hid (HS2.out.keep hb5)
            have HPr5 := Lib.hid (HPr2.out.keep hb5)
            clear hb5 HV HS2 HPr2 cB HA haz
            go_wp2_with fail
            obtain ⟨s, y, hdraw, hs300, hfd, hsh⟩ := draw_tells HS5.out.right HRR.out HS5.out.shows
            have HDR := Lib.hid hdraw
            have HFD := Lib.hid hfd
            have HSH := Lib.hid hsh
            clear hdraw hfd hsh
            refine (draw_any row col tt cc _ (HP.out.keep HS5.out.below) (by have := HS5.out.right.rlen; unfold maxLen; omega) (by have := HRR.out.rlen; unfold maxLen; omega)).mono ?_
            rintro e w6 ⟨rfl, hb6⟩
            rw [HDR.out]
            have HS6 := Lib.hid (HS5.out.keep hb6)
            have HPr6 := Lib.hid (HPr5.out.keep hb6)
            clear hb6 HDR HS5 HPr5
            go_wp2_with fail
            have hx2 : x.2 = col := HS6.out.shows.2
            have hcol := HS6.out.right.rcol
            have hxs := HS6.out.short
            obtain ⟨M, hM⟩ : ∃ M, M = k * 1000000 + 999999 := ⟨_, rfl⟩
            have hM1 : M ≤ 1000000000 := by omega
            have hM2 : x.2 + 1001 * s.size ≤ M := by omega
            have hM3 : x.1.length ≤ M := by omega
            refine (feed_any s (FS w6 B v) (B + 1) M x y w6 hM1 HFD.out HS6.out.sw (fun j hj => Or.inr (Or.inr hj)) hM2 hM3).mono ?_
            rintro e w7 ⟨rfl, hsw7, hfr7, hy7⟩
            obtain ⟨v7, hs7⟩ := HS6.out.fed HB0.out hfr7 hsw7 HRR.out HSH.out (by omega)
            have HS7 := Lib.hid hs7
            have HPr7 := Lib.hid (HPr6.out.fr hfr7 HS6.out.not5)
            have hcv := row_string hs7.own
            obtain ⟨cS, zS⟩ := hs7.scr.cell
            rw [HSH.out.2] at cS
            have hys : y.1.length ≤ 1000000000 := by omega
            have HT := Lib.hid (show (⟨(Lib.trimRightB (⟨y.1.toArray⟩ : ByteArray).data.toList 32).toArray⟩ : ByteArray) = tt from by
              have h1 : Lib.trimRightB y.1 32 = tt.data.toList := shown_trim HSH.out.1 HRR.out.rend
              show (⟨(Lib.trimRightB y.1 32).toArray⟩ : ByteArray) = tt
              rw [h1])
            clear hs7 hsw7 hfr7 hx2 hcol hxs HS6 HPr6 HFD hy7 zS hM hM1 hM2 hM3
            go_wp2_with fail
            refine (Tryz.strings_TrimRight_one ⟨y.1.toArray⟩ 32 (by decide) _ (by rw [← size_toList]; show y.1.length ≤ _; omega)).mono ?_
            rintro e w8 ⟨rfl, hw8⟩
            subst hw8
            rw [HT.out]
            go_wp2_with fail
            exact ⟨⟨k + 1, l', .slice A4 l'.before.length c4, v7, y, tt, cc, by omega, rfl, rfl, by go_num, HS7.out, HPr7.out⟩, by simp [intOf]; omega⟩
      · have HBE := Lib.hid HSc.out.below
        go_wp2_with fail
        go_ret
        exact ⟨rfl, HBE.out⟩

end Go.Proofs.YtokmiommhfbkeaaGreatDoor

namespace Go.Proofs.YtokmiommhfbkeaaGreatDoor.ShowMain
open Go.RowKit Go.ChangeShapes Go.WideShapes Go.ChangeAt Go.Joins
open Go.ChangeMaps (open_string shut_string)

theorem gDeb : Tryz.prog.globalNamed "math/bits.deBruijn64tab" = some 7 := by kernel_rfl
theorem gDebType : (Tryz.prog.globals[7]?).map (·.type) = some 319 := by kernel_rfl
theorem cellsTab : Tryz.prog.cellsOf 319 = 64 := by kernel_rfl
theorem cellsU8 : Tryz.prog.cellsOf 5 = 1 := by kernel_rfl
/-- the numbers of a listed table -/
def numsOf (d : DataW Unit) : List Int := match d with
  | .agg l => l.map fun | .lit (.int _ n) => n | _ => 0
  | _ => []
theorem tabDataDeb : (Rows.laid_math_bits_deBruijn64tab : DataW Unit) = Lib.tabData .u8 (numsOf Rows.laid_math_bits_deBruijn64tab) := by kernel_rfl
theorem deb_of {W : World} (h : laidMetH Tryz.prog Rows.drawingShowsRow.laid W) : Deb W := by
  have h2 : laidMet Tryz.prog (("math/bits.deBruijn32tab", Rows.laid_math_bits_deBruijn32tab) :: ("math/bits.deBruijn64tab", Rows.laid_math_bits_deBruijn64tab) :: Rows.drawingShowsRow.laid.tail.tail) W := h
  have h3 := laid_tail h2
  rw [tabDataDeb] at h3
  have h4 := Lib.tabIs_of_head gDeb gDebType Tryz.underlying319 Tryz.underlying5 cellsU8 cellsTab h3
  have h5 := h4.cell gDeb 15 (by decide +kernel)
  rw [show (numsOf Rows.laid_math_bits_deBruijn64tab).getD 15 0 = 4 from by kernel_rfl] at h5
  exact h5

theorem gPowType : (Tryz.prog.globals[5]?).map (·.type) = some 306 := by kernel_rfl
theorem cellsTabP : Tryz.prog.cellsOf 306 = 20 := by kernel_rfl
theorem cellsU64 : Tryz.prog.cellsOf 285 = 1 := by kernel_rfl
theorem tabDataPow : (Rows.laid_internal_strconv_uint64pow10 : DataW Unit) = Lib.tabData .u64 Lib.pow10Tab := by kernel_rfl
theorem pow_of {W : World} (h : laidMetH Tryz.prog Rows.drawingShowsRow.laid W) : Pow W := by
  have h2 : laidMet Tryz.prog (("math/bits.deBruijn32tab", Rows.laid_math_bits_deBruijn32tab) :: ("math/bits.deBruijn64tab", Rows.laid_math_bits_deBruijn64tab) :: ("internal/strconv.uint64pow10", Rows.laid_internal_strconv_uint64pow10) :: Rows.drawingShowsRow.laid.tail.tail.tail) W := h
  rw [tabDataPow] at h2
  exact Lib.tabIs_of_head gPow gPowType Tryz.underlying306 Tryz.underlying285 cellsU64 cellsTabP (laid_tail (laid_tail h2))

theorem u8Types : U8Types Tryz.prog Tryz.lays230_ren := { Tryz.lays230 with }
theorem u8Extra : U8Extra Tryz.prog Tryz.lays230_ren := ⟨by kernel_rfl, by kernel_rfl, by kernel_rfl, by kernel_rfl, by kernel_rfl, by kernel_rfl, by kernel_rfl⟩
theorem firstData_eq : (Rows.laid_unicode_utf8_first : DataW Unit) = Lib.firstData := by kernel_rfl
theorem acceptData_eq : (Rows.laid_unicode_utf8_acceptRanges : DataW Unit) = Lib.acceptData := by kernel_rfl
theorem u8_of {W : World} (h : laidMetH Tryz.prog Rows.drawingShowsRow.laid W) : U8 W := by
  have h2 : laidMet Tryz.prog Rows.drawingShowsRow.laid W := h
  obtain ⟨ps, hl, _⟩ := h2
  refine utf8Tabs_of_readsT u8Types u8Extra ?_ ?_
  · rw [← firstData_eq]
    exact Lib.LaidVars_reads hl _ _ (by simp [Rows.drawingShowsRow])
  · rw [← acceptData_eq]
    exact Lib.LaidVars_reads hl _ _ (by simp [Rows.drawingShowsRow])

theorem cellsPair : Tryz.prog.cellsOf 38 = 2 := by kernel_rfl
theorem cellsInt : Tryz.prog.cellsOf 3 = 1 := by kernel_rfl

set_option maxRecDepth 100000 in
/-- a slice of pairs that came in -/
theorem open_keys {H : Type} {enc : TypeId × Value → H} {W : World} {r : Reach} {b0 : Nat} {v : Value} {d : DataW H} {p : List MemPlace}
    (hval : Value.okWide Tryz.prog W r b0 34 v) (h : DataW.Trod enc Tryz.prog W 0 (fun _ => true) true 34 v d p) :
    ∃ n, KQ W v n ∧ n ≤ 9223372036854775807 := by
  obtain ⟨a0, len, cap, rfl⟩ := okWide_slice Tryz.underlying34 hval
  obtain ⟨fuel, hf⟩ := h
  rcases Go.Deep.open_slice Tryz.underlying34 hf with ⟨hcs, _⟩ | ⟨a, len', cap', m, n, D, Pl, hcs, _, hl, hm, hmm, _, hi⟩
  · have hcs' : Value.slice a0 len cap = .slice none 0 0 := by simpa [Value.cells] using hcs
    rw [hcs']
    exact ⟨0, ⟨none, 0, rfl, Nat.le_refl _, fun h => by omega⟩, by omega⟩
  · have hcs' : Value.slice a0 len cap = .slice (some a) len' cap' := by simpa [Value.cells] using hcs
    rw [hcs']
    simp only [if_true] at hmm
    have key : ∀ i, i < len' → ∃ x y : Int, W.cell? (a.add (i * 2)) = some (.int .i64 x) ∧ W.cell? (a.add (i * 2 + 1)) = some (.int .i64 y) ∧ -9223372036854775808 ≤ y ∧ y ≤ 9223372036854775807 := fun i hil => by
      obtain ⟨cs', hc, ht⟩ := hi i (by omega)
      rw [cellsPair] at hc
      obtain ⟨_, hcl, hat⟩ := World.cells?_some hc
      obtain ⟨xs, m', _, _, _, hxl, hg⟩ := DataW.trod_array Tryz.underlying38 ht
      have g0 := hg 0 (by omega)
      have g1 := hg 1 (by omega)
      rw [cellsInt] at g0 g1
      match cs', hcl with
      | [c0, c1], _ =>
        match xs, hxl with
        | [x0, x1], _ =>
          have g0' : DataW.trod enc Tryz.prog W 0 (fun _ => true) true m' 3 [c0] = some x0 := by simpa using g0
          have g1' : DataW.trod enc Tryz.prog W 0 (fun _ => true) true m' 3 [c1] = some x1 := by simpa using g1
          obtain ⟨x, hx, _, _⟩ := DataW.trod_int Tryz.underlying3 g0'
          obtain ⟨y, hy, _, hw⟩ := DataW.trod_int Tryz.underlying3 g1'
          have h0 := hat 0 (by omega)
          have h1 := hat 1 (by omega)
          rw [Go.Deep.add_add] at h0 h1
          injection hx with hx
          injection hy with hy
          subst hx
          subst hy
          have hwf := (Lit.wf_int_iff .i64 y).1 hw
          have hmin : IntKind.i64.min = -9223372036854775808 := by decide
          have hmax : IntKind.i64.max = 9223372036854775807 := by decide
          rw [hmin, hmax] at hwf
          exact ⟨x, y, by simpa using h0, by simpa using h1, hwf.1, hwf.2⟩
    refine ⟨len', ⟨some a, cap', rfl, hl, fun hp => ?_⟩, by unfold maxLen at hm; omega⟩
    obtain ⟨x, y, h0, _⟩ := key 0 hp
    obtain ⟨b, off, spot⟩ := a
    have hspot : spot = none := by simpa [Addr.add] using World.cell?_spot h0
    subst hspot
    refine ⟨b, off, rfl, ?_, fun j hj => ?_⟩
    · have := World.block_lt_of_cell? W _ h0
      rwa [add_plain] at this
    · obtain ⟨x, y, h1, h2, h3, h4⟩ := key j hj
      rw [add_plain] at h1 h2
      exact ⟨x, y, h1, by rw [← h2, Nat.add_assoc], h3, h4⟩

theorem params_fine : (Tryz.f6.params.toList.all fun t => Tryz.prog.readableRec t && decide (t < Tryz.prog.types.size)) = true := by kernel_rfl

set_option maxRecDepth 100000 in
theorem contract (H : Type) (enc : TypeId × Value → H) (W : World) (base : Nat) (args : Array Value) (ds gs : List (DataW H)) (before : List MemPlace)
    (hval : ∀ (j : Nat) t v, Tryz.f6.params[j]? = some t → args[j]? = some v → Value.okWide Tryz.prog W .any base t v)
    (hW : DataW.Whole enc Tryz.prog Tryz.f6.params.toList Rows.drawingShowsSpec.vars false W args.toList ds gs before) (hL : laidMetH Tryz.prog Rows.drawingShowsRow.laid W) :
    Calls Tryz.prog 6 args W fun e W' => ∃ v, e = .returned v ∧ Rows.drawingShowsSpec.post enc Tryz.prog Tryz.f6 false true false false W args v W' := by
  have hW' := hW
  obtain ⟨p, q, hA0, hV, rfl, hfz, hnd⟩ := hW
  have hA : DataW.TrodAll enc Tryz.prog W 0 (fun _ => true) true Tryz.f6.params.toList args.toList ds p := hA0
  rw [Tryz.params6] at hA hval
  obtain ⟨v0, v1, v2, d0, d1, d2, p0, p1, p2, rfl, rfl, rfl, h0, h1, h2⟩ := trodAll_three hA
  obtain ⟨rfl, rfl⟩ := trodVars_none hV
  obtain ⟨n, hk, hn⟩ := open_keys (hval 0 34 v0 rfl rfl) h0
  obtain ⟨s, rfl, rfl, rfl, hs⟩ := open_string Tryz.underlying9 (hval 1 9 v1 rfl rfl) h1
  obtain ⟨wide, rfl, rfl, rfl, w1⟩ := open_int Tryz.underlying3 (hval 2 3 v2 rfl rfl) h2
  refine (show_walk v0 n s wide W hk hn (deb_of hL) (pow_of hL) (u8_of hL) (by simp only [maxLen] at hs; omega)).mono fun e W' ⟨he, hb⟩ => ⟨_, he, ?_⟩
  exact law_post laidOut (params_ok params_fine) rfl (by kernel_rfl) Tryz.underlying4 hW' hb rfl

/-- the cells of a listed table -/
def tabOf (d : DataW Unit) : Array Value := match d with
  | .agg l => (l.flatMap fun
    | .lit (.int k n) => [Value.int k n]
    | .agg m => m.map fun | .lit (.int k n) => Value.int k n | _ => .bool false
    | _ => [.bool false]).toArray
  | _ => #[]
/-- the text of a listed error -/
def textOf (d : DataW Unit) : ByteArray := match d with
  | .iface _ (.ptr (.agg [.lit (.string l)])) => ⟨l.toArray⟩
  | _ => ⟨#[]⟩
/-- a world for the witness: the settled one, the listed tables and errors holding what their initialisers lay -/
noncomputable def laidWorld (os : Os) : World :=
  { World.holding Tryz.prog os ⟨#[.cells #[.string (textOf Rows.laid_strconv_ErrRange)] 312, .cells #[.string (textOf Rows.laid_strconv_ErrSyntax)] 312], #[], []⟩ with heap := ((((((((World.holding Tryz.prog os ⟨#[.cells #[.string (textOf Rows.laid_strconv_ErrRange)] 312, .cells #[.string (textOf Rows.laid_strconv_ErrSyntax)] 312], #[], []⟩).heap.modify 6 fun
      | .cells _ t frozen => .cells (tabOf Rows.laid_math_bits_deBruijn32tab) t frozen
      | o => o).modify 7 fun
      | .cells _ t frozen => .cells (tabOf Rows.laid_math_bits_deBruijn64tab) t frozen
      | o => o).modify 5 fun
      | .cells _ t frozen => .cells (tabOf Rows.laid_internal_strconv_uint64pow10) t frozen
      | o => o).modify 1 fun
      | .cells _ t frozen => .cells (tabOf Rows.laid_unicode_utf8_acceptRanges) t frozen
      | o => o).modify 0 fun
      | .cells _ t frozen => .cells (tabOf Rows.laid_unicode_utf8_first) t frozen
      | o => o).modify 4 fun
      | .cells _ t frozen => .cells #[.iface 310 (.pointer (some ⟨(World.settled Tryz.prog os).heap.size + 0, 0, none⟩))] t frozen
      | o => o).modify 3 fun
      | .cells _ t frozen => .cells #[.iface 310 (.pointer (some ⟨(World.settled Tryz.prog os).heap.size + 1, 0, none⟩))] t frozen
      | o => o) }
def wargs : Array Value := #[.slice none 0 0, .string .empty, .int .i64 0]
theorem laid_met (os : Os) : laidMet Tryz.prog Rows.drawingShowsRow.laid ((laidWorld os).forCall (fun _ _ => 0) ⟨#[], wargs, []⟩).memory :=
  laidMet_of_run' 8 (by kernel_rfl) (by kernel_rfl)
theorem reads (os : Os) {H : Type} (enc : TypeId × Value → H) : ∃ places, DataW.whole enc Tryz.prog ((laidWorld os).forCall (fun _ _ => 0) ⟨#[], wargs, []⟩).memory Tryz.f6.params.toList Rows.drawingShowsSpec.vars false wargs.toList 8 = some ([.nil, .lit (.string []), .lit (.int .i64 0)], [], places) :=
  ⟨[], by kernel_rfl⟩

set_option maxRecDepth 100000 in
theorem lifted (os : Os) (started : os.Started) (H : Type) (enc : TypeId × Value → H) (F : Stop.Interp) :
    ReturnsInHanded {} Tryz.checked os 6 .any ((OpenSpec.ofChange Rows.drawingShowsSpec).preRow enc Tryz.prog Tryz.f6 Rows.drawingShowsRow.domain false Rows.drawingShowsRow.laid) (((OpenSpec.ofChange Rows.drawingShowsSpec).at F).post enc Tryz.prog Tryz.f6 false true false false) := by
  obtain ⟨places, hx⟩ := reads os enc
  refine returnsInHanded_of_row (C := Tryz.checked) (s := OpenSpec.ofChange Rows.drawingShowsSpec) own started (by kernel_rfl) Tryz.func6
    (witness_row_at (enc := enc) (C := Tryz.checked) false (laidWorld os) wargs rfl (by kernel_rfl) (by kernel_rfl) (by kernel_rfl)
      (OpenSpec.preRow_of_cond 8 hx (by kernel_rfl) (fun k hk => by cases hk) (by kernel_rfl) (laid_met os))) ?_
  intro W base args ds gs before hval hW _ _ _ hL _ _
  exact contract H enc W base args ds gs before hval hW hL

theorem said : Rows.DrawingShowsSaid :=
  OpenClaim.holds_of_cond 6 Tryz.f6 rfl rfl rfl rfl rfl rfl rfl ⟨rfl, rfl, rfl, rfl, rfl⟩ rfl rfl rfl rfl rfl (by kernel_rfl) Tryz.func6 (by kernel_rfl)
    (of_decide_eq_true (by kernel_rfl)) (by unfold Func.isWrapper; first | (rw [if_pos (by decide +kernel)]; kernel_rfl) | (rw [if_neg (by decide +kernel)]; exact ⟨rfl, rfl⟩))
    (fun os started H enc _ F => by rw [OpenClaim.pre_eq_preRow]; exact lifted os started H enc F)

theorem no_stand (l : List TypeId) (h : (l.all fun t => !(Tryz.pinned.checked.prog.wantsStandIn t)) = true) (t : TypeId) (ht : t ∈ l) : Tryz.pinned.checked.prog.wantsStandIn t = false := by
  simpa using List.all_eq_true.1 h t ht
theorem plain (f : FuncId) (fn : Func) (hf : Tryz.pinned.checked.prog.funcNamed "periwinkle/periwinklelaw2.DrawingShows" = some f) (hfn : Tryz.pinned.checked.prog.funcs[f]? = some fn) :
    true = Tryz.pinned.checked.prog.looks [] ∧ ∀ (j : Nat) t, fn.params[j]? = some t → Tryz.pinned.checked.prog.wantsStandIn t = false := by
  obtain rfl : f = 6 := Option.some.inj ((show Tryz.prog.funcNamed "periwinkle/periwinklelaw2.DrawingShows" = some 6 by kernel_rfl).symm.trans hf) |>.symm
  obtain rfl : fn = Tryz.f6 := (Option.some.inj (Tryz.func6.symm.trans hfn)).symm
  refine ⟨by kernel_rfl, fun j t ht => ?_⟩
  rw [Tryz.params6] at ht
  exact no_stand [34, 9, 3] (by kernel_rfl) t (by simpa using Array.mem_of_getElem? ht)

theorem card : Rows.DrawingShowsCardSaid :=
  Claim7.holds_tied_plain_at .later [] _ _ _ _ said (fun _ h => by cases h) (by kernel_rfl) (fun _ h => by cases h) drawingShows_row_tie rfl ⟨rfl, rfl⟩ (by kernel_rfl) rfl plain (by kernel_rfl)

end Go.Proofs.YtokmiommhfbkeaaGreatDoor.ShowMain
