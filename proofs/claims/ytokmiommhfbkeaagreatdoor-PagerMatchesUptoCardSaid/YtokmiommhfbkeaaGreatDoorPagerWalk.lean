/- PagerMatches, the walk: the law answers true for every text, every width and height, and all keys. -/
import Derived.Test.YtokmiommhfbkeaaGreatDoorPagerF
import Derived.Deep.DeepCutAuto
import Derived.Laws.OwnMore
namespace Go.Proofs.YtokmiommhfbkeaaGreatDoor
open Go.RowKit

theorem withinW_any (n : Int) : ∃ v : Int, ∀ w, Calls Tryz.prog 8 #[.int .i64 n, .int .i64 1, .int .i64 60] w fun e w' => e = .returned (.int .i64 v) ∧ w' = w := by
  apply Exists.intro
  intro w
  go_enter Tryz.func8, Tryz.ntmps8
  go_wp2
  go_ret
  exact ⟨rfl, rfl⟩
theorem withinH_any (n : Int) : ∃ v : Int, ∀ w, Calls Tryz.prog 8 #[.int .i64 n, .int .i64 0, .int .i64 30] w fun e w' => e = .returned (.int .i64 v) ∧ w' = w := by
  apply Exists.intro
  intro w
  go_enter Tryz.func8, Tryz.ntmps8
  go_wp2
  go_ret
  exact ⟨rfl, rfl⟩

/-- the law's two pagers, in their boxes -/
structure PLines (w0 wr : World) (B : Nat) (p : PG) : Prop where
  box1 : Bx wr B (pgC p.text p.wide p.high p.top p.sought)
  box2 : Bx wr (B + 1) (pgC p.text p.wide p.high p.top p.sought)
  size : p.text.size < 4294967281
  below : Below w0.heap.size w0 wr
theorem PLines.keep {w0 w w' : World} {B : Nat} {p : PG} (h : PLines w0 w B p) (hb : Below w.heap.size w w') : PLines w0 w' B p :=
  ⟨h.box1.keep hb, h.box2.keep hb, h.size, h.below.trans (hb.mono h.below.size)⟩
theorem scroll_text (p : PG) (key : ByteArray) (h : p.text.size < 4294967281) : (scrollL p key).1.text.size < 4294967281 := by
  have hm : ∀ t, (moveTo p t).1.text.size < 4294967281 := fun t => h
  have hk : ∀ q s, (seekTo p q s).1.text.size < 4294967281 := fun q s => by unfold seekTo; split <;> exact h
  have hz : (zeroPG).text.size < 4294967281 := by decide
  have hi : ∀ (c : Prop) [Decidable c] (a b : PG × Int), a.1.text.size < 4294967281 → b.1.text.size < 4294967281 → (if c then a else b).1.text.size < 4294967281 := fun c _ a b ha hb => by split <;> assumption
  unfold scrollL
  exact hi _ _ _ hz (hi _ _ _ (hm _) (hi _ _ _ (hm _) (hi _ _ _ (hm _) (hi _ _ _ (hm _) (hi _ _ _ (hm _) (hi _ _ _ (hm _) (hi _ _ _ (hm _) (hi _ _ _ (hm _) (hi _ _ _ (hk _ _) (hi _ _ _ (hk _ _) (hi _ _ _ (hi _ _ _ hz (hk _ _)) hz)))))))))))

/-- the keys behind the first one -/
def Keys (w0 : World) (keys : List ByteArray) (s30 s31 s32 : Value) (wx : World) : Prop :=
  ∃ A c, s30 = .slice A (keys.length + 1) c ∧ s31 = .int .i64 ((keys.length : Int) + 1) ∧ s32 = .int .i64 0 ∧ SL wx (.slice A ((⟨#[103]⟩ : ByteArray) :: keys).length c) (⟨#[103]⟩ :: keys) ∧ Below w0.heap.size w0 wx ∧ ∀ a, A = some a → w0.heap.size ≤ a.block
/-- the keys, where they lie -/
def KeyC (b off : Nat) (L : List ByteArray) (w : World) : Prop := b < w.heap.size ∧ ∀ j (h : j < L.length), w.cell? ⟨b, off + j, none⟩ = some (.string L[j])
theorem KeyC.keep {b off : Nat} {L : List ByteArray} {w w' : World} (h : KeyC b off L w) (hb : Below w.heap.size w w') : KeyC b off L w' :=
  ⟨Nat.lt_of_lt_of_le h.1 hb.size, fun j hj => (hb.cell (p := ⟨b, off + j, none⟩) h.1).trans (h.2 j hj)⟩
theorem KeyC.set_ {b off : Nat} {L : List ByteArray} {w : World} (h : KeyC b off L w) {g : Nat} (hne : b ≠ g) (i : Nat) (u : Value) : KeyC b off L (w.setCell ⟨g, i, none⟩ u) :=
  ⟨by simpa [World.setCell] using h.1, fun j hj => by rw [World.cell?_setCell_other _ _ _ _ (by intro e; injection e; omega)]; exact h.2 j hj⟩
theorem KeyC.five {b off : Nat} {L : List ByteArray} {w : World} (h : KeyC b off L w) {g : Nat} (hne : b ≠ g) (v0 v1 v2 v3 v4 : Value) : KeyC b off L (fiveP w g v0 v1 v2 v3 v4) :=
  ((((h.set_ hne 0 _).set_ hne 1 _).set_ hne 2 _).set_ hne 3 _).set_ hne 4 _
theorem five_far {w : World} {b g : Nat} {cs : Array Value} (h : Bx w g cs) (hne : g ≠ b) (v0 v1 v2 v3 v4 : Value) : Bx (fiveP w b v0 v1 v2 v3 v4) g cs :=
  ((((h.far hne 0 _).far hne 1 _).far hne 2 _).far hne 3 _).far hne 4 _
theorem plines_set {w0 w : World} {B : Nat} {p : PG} (r : PG) (h : PLines w0 w B p) (hB : w0.heap.size ≤ B) (hs : r.text.size < 4294967281) :
    PLines w0 (fiveP (fiveP w B (.string r.text) (.int .i64 r.wide) (.int .i64 r.high) (.int .i64 r.top) (.string r.sought)) (B + 1) (.string r.text) (.int .i64 r.wide) (.int .i64 r.high) (.int .i64 r.top) (.string r.sought)) B r :=
  ⟨five_far (five_bx h.box1 _ _ _ _ _) (by omega) _ _ _ _ _, five_bx (five_far h.box2 (by omega) _ _ _ _ _) _ _ _ _ _, hs, five_below (five_below h.below hB _ _ _ _ _) (by omega) _ _ _ _ _⟩
theorem vis_len (p : PG) : (visL p).length ≤ 9223372036854775807 := by
  have := (rows_len' p.text p.wide).1
  unfold visL
  split
  · rw [List.length_drop, List.length_take]; unfold PG.rows; omega
  · exact Nat.zero_le _
theorem strs_one (l : List ByteArray) : ∀ u ∈ l.map Value.string, u.oneCell' = true := fun u hu => by
  obtain ⟨s, _, rfl⟩ := List.mem_map.1 hu
  rfl

set_option maxRecDepth 100000 in
set_option maxHeartbeats 3200000 in
theorem pager_walk (text : ByteArray) (wide high : Int) (v : Value) (keys : List ByteArray) (w : World) (hx : MX w) (hd : Deb w) (hs : text.size < 4294967281) (hk : SL w v keys) (hn : keys.length ≤ 1048576) (hkl : ∀ s ∈ keys, s.size ≤ 9223372036854775807) :
    Calls Tryz.prog 3 #[.string text, .int .i64 wide, .int .i64 high, v] w fun e w' => e = .returned (.bool true) ∧ Below w.heap.size w w' := by
  obtain ⟨W, hW⟩ := withinW_any wide
  obtain ⟨H, hH⟩ := withinH_any high
  have HW := Lib.hid hW
  have HH := Lib.hid hH
  have HX := Lib.hid hx
  have HD := Lib.hid hd
  have HK := Lib.hid hk
  have HKL := Lib.hid hkl
  obtain ⟨A, c, rfl, hc, hcells⟩ := hk
  have HC := Lib.hid hcells
  clear hW hH hx hd hkl hcells
  go_enter Tryz.func3, Tryz.ntmps3
  go_wp2_with fail
  refine (landed_any w).mono ?_
  rintro e w1 ⟨rfl, hb1⟩
  go_wp2_with fail
  refine (HW.out _).mono ?_
  rintro e w2 ⟨rfl, hw2⟩
  subst hw2
  go_wp2_with fail
  refine (HH.out _).mono ?_
  rintro e w3 ⟨rfl, hw3⟩
  subst hw3
  go_upto_region 5 with fail
  have K1 := Lib.hid (two_bx w3 (pgC text W H 0 ⟨#[]⟩) (pgC text W H 0 ⟨#[]⟩))
  have hb3 := two_below' w3 (.cells (pgC text W H 0 ⟨#[]⟩) 26) (.cells (pgC text W H 0 ⟨#[]⟩) 26)
  have HP0 := Lib.hid (show PLines w ((w3.alloc (.cells (pgC text W H 0 ⟨#[]⟩) 26)).alloc (.cells (pgC text W H 0 ⟨#[]⟩) 26)) w3.heap.size ⟨text, W, H, 0, ⟨#[]⟩⟩ from ⟨K1.out.1, K1.out.2, hs, hb1.trans (hb3.mono hb1.size)⟩)
  have hsz : ((w3.alloc (.cells (pgC text W H 0 ⟨#[]⟩) 26)).alloc (.cells (pgC text W H 0 ⟨#[]⟩) 26)).heap.size = w3.heap.size + 1 + 1 := by simp
  have HB0 := Lib.hid hb1.size
  clear hb1 hb3 K1
  generalize (w3.alloc (.cells (pgC text W H 0 ⟨#[]⟩) 26)).alloc (.cells (pgC text W H 0 ⟨#[]⟩) 26) = w4 at *
  generalize w3.heap.size = B at *
  have HSZ := Lib.hid hsz
  clear hsz
  have HK4 := Lib.hid (HK.out.keep HP0.out.below)
  go_cut [30, 31, 32] (fun s30 s31 s32 wx => Keys w4 keys s30 s31 s32 wx)
  case first =>
    by_cases hz : 0 < keys.length
    · obtain ⟨b, off, rfl, hbl, hcell⟩ := HC.out hz
      obtain ⟨i0, hi, hz0, hz1, hz2⟩ := info_parts info_str
      have hlt : ∀ j u, (keys.map Value.string)[j]? = some u → (w4.alloc (.cells #[.string ⟨#[103]⟩] 9)).cell? ((⟨b, off, none⟩ : Addr).add j) = some u := fun j u hu => by
        have hj : j < keys.length := by have := (List.getElem?_eq_some_iff.1 hu).1; simpa using this
        have h1 := (HP0.out.below.cell (p := ⟨b, off + j, none⟩) hbl).trans (hcell j hj)
        rw [WideShapes.add_plain, World.cell?_alloc_lt _ _ _ (show b < w4.heap.size from Nat.lt_of_lt_of_le hbl HP0.out.below.size), h1]
        simpa [hj] using hu
      have HLT := Lib.hid hlt
      have hm := Lib.hid (World.ownsRow_lit (base := w4.heap.size) (e := 9) (size := 1) w4 #[.string ⟨#[103]⟩] 1 (Nat.le_refl _) (by unfold maxLen; omega) rfl)
      clear hcell hlt
      go_wp2_with (at_builtin; refine wpList_append_own _ rfl _ _ 22 rfl w4.heap.size 9 i0 (.string ⟨#[]⟩) 1 16 Tryz.underlying22 hi hz0 hz1 hz2 rfl (by decide) _ 1 [.string ⟨#[103]⟩] rfl hm.out ⟨b, off, none⟩ keys.length c (keys.map Value.string) rfl (by simp) HLT.out (strs_one keys) ?c3 ?c4 (by simp) ?_)
      case c3 => unfold maxLen; omega
      case c4 => omega
      intro v5 w5 hown5 hg5 _
      have HS5 := Lib.hid (SL.of_own (l := (⟨#[103]⟩ : ByteArray) :: keys) (show w5.ownsRow w4.heap.size 9 1 v5 ((⟨#[103]⟩ : ByteArray) :: keys).length _ from by rw [List.length_cons, Nat.add_comm]; exact hown5))
      have HB5 := Lib.hid (((Below.refl _ w4).alloc (Nat.le_refl _) (.cells #[.string ⟨#[103]⟩] 9)).grown hg5 (by simp) (fun g hg => by simp [Value.ownBlock] at hg; omega))
      have hw5 := fun k h => (hown5.lt k h).1
      obtain ⟨A5, c5, rfl, _, _⟩ := HS5.out
      have HW5 := Lib.hid (show ∀ a, A5 = some a → w4.heap.size ≤ a.block from fun a h => by
        subst h
        obtain ⟨_, _, e, _, hh⟩ := HS5.out
        injection e with e1 _ _
        obtain ⟨b', off', e2, _⟩ := hh (by simp)
        rw [← e1] at e2
        injection e2 with e2
        subst e2
        exact hw5 b' rfl)
      clear hown5 hg5 hw5
      go_wp2_with fail
      go_meet
      case rel => exact ⟨A5, c5, rfl, rfl, rfl, HS5.out, HB5.out, HW5.out⟩
    · have hk0 : keys = [] := List.length_eq_zero_iff.1 (by omega)
      subst hk0
      have hs1 : SL (w4.alloc (.cells #[.string ⟨#[103]⟩] 9)) (.slice (some ⟨w4.heap.size, 0, none⟩) [(⟨#[103]⟩ : ByteArray)].length 1) [⟨#[103]⟩] := SL.of_own (World.ownsRow_lit (base := w4.heap.size) (e := 9) (size := 1) w4 #[.string ⟨#[103]⟩] 1 (Nat.le_refl _) (by unfold maxLen; omega) rfl)
      have HS1 := Lib.hid hs1
      clear hs1
      cases A
      all_goals
        go_wp2_with fail
        go_meet
      all_goals exact ⟨_, 1, rfl, rfl, rfl, HS1.out, (Below.refl _ w4).alloc (Nat.le_refl _) _, fun a h => by injection h with h; subst h; exact Nat.le_refl _⟩
  case rest =>
    obtain ⟨A5, c5, rfl, rfl, rfl, hs5, hb5, hw5⟩ := hcut
    have HP5 := Lib.hid (HP0.out.keep hb5)
    have HS5 := Lib.hid hs5
    have HKL5 := Lib.hid (show ∀ s ∈ (⟨#[103]⟩ : ByteArray) :: keys, s.size ≤ 9223372036854775807 from fun s hs => by
      rcases List.mem_cons.1 hs with rfl | h
      · decide
      · exact HKL.out s h)
    obtain ⟨_, _, e5, hc5, hcell5⟩ := hs5
    injection e5 with e6 _ e7
    subst e6 e7
    obtain ⟨b5, off5, rfl, hl5, hcell5⟩ := hcell5 (by simp)
    have HC5 := Lib.hid (show KeyC b5 off5 (⟨#[103]⟩ :: keys) wc from ⟨hl5, hcell5⟩)
    have HB52 := Lib.hid (show B + 1 < b5 by have h5 : w4.heap.size ≤ b5 := hw5 _ rfl; have := HSZ.out; exact (by omega : B + 1 < b5))
    have hLl : ((⟨#[103]⟩ : ByteArray) :: keys).length = keys.length + 1 := rfl
    clear hb5 hcell5 HS5 hw5
    generalize (⟨#[103]⟩ : ByteArray) :: keys = L at *
    have hNN : ((keys.length : Int) + 1) = ((L.length : Nat) : Int) := by omega
    rw [hNN, ← hLl]
    clear HK4 HK HKL HC hNN
    have hLn : L.length ≤ 1048577 := by omega
    clear hLl
    go_wp2_with fail
    go_loopw [32] (fun i wr => ∃ (j : Nat) (p : PG), j ≤ L.length ∧ i = .int .i64 j ∧ Hid (PLines w wr B p) ∧ Hid (KeyC b5 off5 L wr)) (fun i _ => L.length - (intOf i).toNat)
    case atStart => exact ⟨0, ⟨text, W, H, 0, ⟨#[]⟩⟩, Nat.zero_le _, rfl, HP5.out, HC5.out⟩
    case round =>
      obtain ⟨j, p, hj, rfl, HP, HBW⟩ := hrel
      by_cases hlt : j < L.length
      · have h7 : wr.cell? ⟨b5, off5 + j, none⟩ = some (.string L[j]) := HBW.out.2 j hlt
        have hks : L[j].size ≤ 9223372036854775807 := HKL5.out _ (List.getElem_mem hlt)
        obtain ⟨key, hkey⟩ : ∃ key, L[j] = key := ⟨_, rfl⟩
        rw [hkey] at h7 hks
        clear hkey
        have HXr := Lib.hid (HX.out.keep HP.out.below)
        have HDr := Lib.hid (HD.out.keep HP.out.below)
        have HSC := Lib.hid (fun W' (hb : Below wr.heap.size wr W') => scroll_any p key W' (HXr.out.keep hb) (HDr.out.keep hb) HP.out.size hks)
        have HRC := Lib.hid (fun W' (hb : Below wr.heap.size wr W') => rscroll_any p key W' (HXr.out.keep hb) HP.out.size hks)
        have HTX := Lib.hid (scroll_text p key HP.out.size)
        generalize scrollL p key = r at *
        obtain ⟨tx, wd, hh, tp, so⟩ := p
        obtain ⟨⟨tx', wd', hh', tp', so'⟩, n'⟩ := r
        obtain ⟨cB, zB⟩ := HP.out.box1.cell
        obtain ⟨cC, zC⟩ := HP.out.box2.cell
        have lB := HP.out.box1.lt
        have lC := HP.out.box2.lt
        dsimp only at cB cC
        go_wp2_with fail
        refine (HSC.out _ (by exact Below.refl _ _)).mono ?_
        rintro e w5 ⟨rfl, hb5⟩
        have HP5' := Lib.hid (HP.out.keep hb5)
        have HBr5 := Lib.hid hb5
        clear cB zB cC zC lB lC h7 hb5
        obtain ⟨cC, zC⟩ := HP5'.out.box2.cell
        have lC := HP5'.out.box2.lt
        dsimp only at cC
        go_wp2_with fail
        have hb6 : Below w5.heap.size w5 (w5.alloc (.cells (pgC tx' wd' hh' tp' so') 26)) := (Below.refl _ w5).alloc (Nat.le_refl _) _
        have K13 := Lib.hid (show Bx (w5.alloc (.cells (pgC tx' wd' hh' tp' so') 26)) w5.heap.size (pgC tx' wd' hh' tp' so') from heap_alloc_new w5 _)
        have HP6 := Lib.hid (HP5'.out.keep hb6)
        have HBr6 := Lib.hid (HBr5.out.trans (hb6.mono HBr5.out.size))
        have HG13 := Lib.hid (show B + 1 < w5.heap.size from HP5'.out.box2.lt)
        clear hb6 cC zC lC
        generalize w5.alloc (.cells (pgC tx' wd' hh' tp' so') 26) = w6 at *
        generalize w5.heap.size = g13 at *
        refine (HRC.out _ HBr6.out).mono ?_
        rintro e w7 ⟨rfl, hb7⟩
        have K17 := Lib.hid (K13.out.keep hb7)
        have HP7 := Lib.hid (HP6.out.keep hb7)
        have HBr7 := Lib.hid (HBr6.out.trans (hb7.mono HBr6.out.size))
        clear hb7
        obtain ⟨c13, _⟩ := K17.out.cell
        have l13 := K17.out.lt
        go_upto_region 10 with fail
        have hb8 : Below w7.heap.size w7 (w7.alloc (.cells (pgC tx' wd' hh' tp' so') 26)) := (Below.refl _ w7).alloc (Nat.le_refl _) _
        have K15 := Lib.hid (show Bx (w7.alloc (.cells (pgC tx' wd' hh' tp' so') 26)) w7.heap.size (pgC tx' wd' hh' tp' so') from heap_alloc_new w7 _)
        have K18 := Lib.hid (K17.out.keep hb8)
        have HP8 := Lib.hid (HP7.out.keep hb8)
        have HBr8 := Lib.hid (HBr7.out.trans (hb8.mono HBr7.out.size))
        have HG15 := Lib.hid (show B + 1 < w7.heap.size from HP7.out.box2.lt)
        clear hb8 c13 l13
        generalize w7.alloc (.cells (pgC tx' wd' hh' tp' so') 26) = w8 at *
        generalize w7.heap.size = g15 at *
        obtain ⟨c13, _⟩ := K18.out.cell
        obtain ⟨c15, _⟩ := K15.out.cell
        go_upto_region 12 with fail
        have HK8 := Lib.hid ((HBW.out).keep HBr8.out)
        clear HBr5 HBr6 HBr7 HBr8 HSC HRC
        by_cases hr : n' = 0
        · have er : (n' == 0) = true := by rw [beq_iff_eq]; exact hr
          clear hr
          obtain ⟨cB, zB⟩ := HP8.out.box1.cell
          obtain ⟨cC, zC⟩ := HP8.out.box2.cell
          have lB := HP8.out.box1.lt
          have lC := HP8.out.box2.lt
          have n1 : g13 ≠ B := by have := HG13.out; omega
          have n2 : g13 ≠ B + 1 := by have := HG13.out; omega
          have n3 : g15 ≠ B := by have := HG15.out; omega
          have n4 : g15 ≠ B + 1 := by have := HG15.out; omega
          dsimp only at cB cC
          go_wp2_with fail
          go_region
          have HPs := Lib.hid ((plines_set ⟨tx', wd', hh', tp', so'⟩ HP8.out HB0.out HTX.out).keep ((Below.refl _ _).drew))
          have HKs := Lib.hid (((HK8.out.five (g := B) (by have := HB52.out; omega) (.string tx') (.int .i64 wd') (.int .i64 hh') (.int .i64 tp') (.string so')).five (g := B + 1) (by have := HB52.out; omega) (.string tx') (.int .i64 wd') (.int .i64 hh') (.int .i64 tp') (.string so')).keep ((Below.refl _ _).drew))
          dsimp only at HPs
          clear cB zB cC zC lB lC n1 n2 n3 n4 c13 c15
          generalize World.drew _ = ws at *
          have HXs := Lib.hid (HX.out.keep HPs.out.below)
          have HDs := Lib.hid (HD.out.keep HPs.out.below)
          have HV1 := Lib.hid (fun W' (hb : Below ws.heap.size ws W') => visible_any ⟨tx', wd', hh', tp', so'⟩ W' (HXs.out.keep hb) (HDs.out.keep hb) HPs.out.size)
          have HV2 := Lib.hid (fun W' (hb : Below ws.heap.size ws W') => rvisible_any ⟨tx', wd', hh', tp', so'⟩ W' (HXs.out.keep hb) HPs.out.size)
          have HVE := Lib.hid (fun W' v u (h1 : SL W' v (visL ⟨tx', wd', hh', tp', so'⟩)) (h2 : SL W' u (visL ⟨tx', wd', hh', tp', so'⟩)) => by
            have := equal_any _ _ v u W' h1 h2 (vis_len ⟨tx', wd', hh', tp', so'⟩)
            rw [decide_eq_true rfl] at this
            exact this)
          generalize pagerE ⟨tx', wd', hh', tp', so'⟩ = E at *
          generalize visL ⟨tx', wd', hh', tp', so'⟩ = V at *
          obtain ⟨cB, zB⟩ := HPs.out.box1.cell
          have lB := HPs.out.box1.lt
          dsimp only at cB
          go_wp2_with fail
          refine (HV1.out _ (by exact Below.refl _ _)).mono ?_
          rintro e wu ⟨v1, rfl, hs1, hbu⟩
          have HPu := Lib.hid (HPs.out.keep hbu)
          have HKu := Lib.hid (HKs.out.keep hbu)
          have HBu := Lib.hid hbu
          have HS1 := Lib.hid hs1
          obtain ⟨A6, c6, rfl, _, _⟩ := hs1
          clear cB zB lB hbu
          obtain ⟨cC, zC⟩ := HPu.out.box2.cell
          have lC := HPu.out.box2.lt
          dsimp only at cC
          go_wp2_with fail
          refine (HV2.out _ HBu.out).mono ?_
          rintro e wv ⟨v2, rfl, hs2, hbv⟩
          have HPv := Lib.hid (HPu.out.keep hbv)
          have HKv := Lib.hid (HKu.out.keep hbv)
          have HS1' := Lib.hid (HS1.out.keep hbv)
          have HS2 := Lib.hid hs2
          obtain ⟨A7, c7, rfl, _, _⟩ := hs2
          clear cC zC lC hbv
          go_wp2_with fail
          refine (HVE.out _ _ _ HS1'.out HS2.out).mono ?_
          rintro e wx ⟨rfl, hbx⟩
          have HPx := Lib.hid (HPv.out.keep hbx)
          have HKx := Lib.hid (HKv.out.keep hbx)
          clear hbx
          go_wp2_with fail
          go_roundw
          case rel => exact ⟨j + 1, ⟨tx', wd', hh', tp', so'⟩, by omega, by go_num, HPx.out, HKx.out⟩
          case measure => simp [intOf]; omega
        · have er : (n' == 0) = false := by rw [beq_eq_false_iff_ne]; exact hr
          clear hr c13 c15
          have HPs := HP8
          have HKs := HK8
          generalize w8 = ws at *
          have HXs := Lib.hid (HX.out.keep HPs.out.below)
          have HDs := Lib.hid (HD.out.keep HPs.out.below)
          have HV1 := Lib.hid (fun W' (hb : Below ws.heap.size ws W') => visible_any ⟨tx, wd, hh, tp, so⟩ W' (HXs.out.keep hb) (HDs.out.keep hb) HPs.out.size)
          have HV2 := Lib.hid (fun W' (hb : Below ws.heap.size ws W') => rvisible_any ⟨tx, wd, hh, tp, so⟩ W' (HXs.out.keep hb) HPs.out.size)
          have HVE := Lib.hid (fun W' v u (h1 : SL W' v (visL ⟨tx, wd, hh, tp, so⟩)) (h2 : SL W' u (visL ⟨tx, wd, hh, tp, so⟩)) => by
            have := equal_any _ _ v u W' h1 h2 (vis_len ⟨tx, wd, hh, tp, so⟩)
            rw [decide_eq_true rfl] at this
            exact this)
          generalize pagerE ⟨tx, wd, hh, tp, so⟩ = E at *
          generalize visL ⟨tx, wd, hh, tp, so⟩ = V at *
          obtain ⟨cB, zB⟩ := HPs.out.box1.cell
          have lB := HPs.out.box1.lt
          dsimp only at cB
          go_wp2_with fail
          refine (HV1.out _ (by exact Below.refl _ _)).mono ?_
          rintro e wu ⟨v1, rfl, hs1, hbu⟩
          have HPu := Lib.hid (HPs.out.keep hbu)
          have HKu := Lib.hid (HKs.out.keep hbu)
          have HBu := Lib.hid hbu
          have HS1 := Lib.hid hs1
          obtain ⟨A6, c6, rfl, _, _⟩ := hs1
          clear cB zB lB hbu
          obtain ⟨cC, zC⟩ := HPu.out.box2.cell
          have lC := HPu.out.box2.lt
          dsimp only at cC
          go_wp2_with fail
          refine (HV2.out _ HBu.out).mono ?_
          rintro e wv ⟨v2, rfl, hs2, hbv⟩
          have HPv := Lib.hid (HPu.out.keep hbv)
          have HKv := Lib.hid (HKu.out.keep hbv)
          have HS1' := Lib.hid (HS1.out.keep hbv)
          have HS2 := Lib.hid hs2
          obtain ⟨A7, c7, rfl, _, _⟩ := hs2
          clear cC zC lC hbv
          go_wp2_with fail
          refine (HVE.out _ _ _ HS1'.out HS2.out).mono ?_
          rintro e wx ⟨rfl, hbx⟩
          have HPx := Lib.hid (HPv.out.keep hbx)
          have HKx := Lib.hid (HKv.out.keep hbx)
          clear hbx
          go_wp2_with fail
          go_roundw
          case rel => exact ⟨j + 1, ⟨tx, wd, hh, tp, so⟩, by omega, by go_num, HPx.out, HKx.out⟩
          case measure => simp [intOf]; omega
      · have HBE := Lib.hid HP.out.below
        go_wp2
        go_ret
        exact ⟨rfl, HBE.out⟩

end Go.Proofs.YtokmiommhfbkeaaGreatDoor
