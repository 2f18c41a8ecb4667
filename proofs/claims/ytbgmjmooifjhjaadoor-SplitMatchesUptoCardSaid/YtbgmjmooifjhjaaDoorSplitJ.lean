/- SplitMatches, the reference: SplitOf. -/
import Derived.Test.YtbgmjmooifjhjaaDoorSplitI
import Derived.Test.YtbgmjmooifjhjaaDoorSplitF
namespace Go.Proofs.YtbgmjmooifjhjaaDoor
open Go.RowKit

set_option maxRecDepth 100000 in
set_option maxHeartbeats 1600000 in
theorem divide_none (v : Value) (F : ByteArray) (w : World) (hv : ML m2 w v []) :
    Calls Tryd.prog 22 #[v, .string F] w fun e w' => e = .returned (.slice none 0 0) ∧ Below w.heap.size w w' := by
  obtain ⟨A, c, rfl, hc, hz⟩ := hv
  clear hz
  go_enter Tryd.func22, Tryd.ntmps22
  go_wp2_with fail
  have HR0 := Lib.hid (RBx.new w (.slice A 0 c) F 62 9 102)
  have HB0 := Lib.hid ((((Below.refl _ w).alloc (Nat.le_refl _) (.cells #[.slice A 0 c] 62)).alloc (by simp) (.cells #[.string F] 9)).alloc (by simp; omega) (.cells #[.func (.func 37) #[] #[.pointer (some ⟨w.heap.size, 0, none⟩), .pointer (some ⟨w.heap.size + 1, 0, none⟩)]] 102))
  simp only [List.length_nil] at *
  generalize hw1 : ((w.alloc (.cells #[.slice A 0 c] 62)).alloc (.cells #[.string F] 9)).alloc (.cells #[.func (.func 37) #[] #[.pointer (some ⟨w.heap.size, 0, none⟩), .pointer (some ⟨w.heap.size + 1, 0, none⟩)]] 102) = w1 at *
  clear hw1
  go_loopw [7, 8, 9] (fun s7 s8 s9 wr => s7 = .slice none 0 0 ∧ s8 = .slice none 0 0 ∧ s9 = .int .i64 0 ∧ wr = w1) (fun _ _ _ _ => 0)
  case atStart => exact ⟨rfl, rfl, rfl, rfl⟩
  case round =>
    obtain ⟨rfl, rfl, rfl, rfl⟩ := hrel
    have cL := HR0.out.l
    have lS := HR0.out.lt
    go_wp2_with fail
    go_ret
    exact ⟨rfl, HB0.out⟩

theorem divide_any (T : List UInt8) (v : Value) (F : ByteArray) (w : World) (hv : ML m2 w v T) (hT : T.length ≤ 1000000000) :
    Calls Tryd.prog 22 #[v, .string F] w fun e w' => ∃ vo vs, e = .returned vo ∧ w'.ownsRow w.heap.size 62 1 vo vs.length vs ∧ FLs m2 w' vs (splitL T F.data.toList) ∧ vs.length ≤ T.length + 1 ∧ Below w.heap.size w w' := by
  rcases Nat.eq_zero_or_pos T.length with h | h
  · have hT0 := List.length_eq_zero_iff.1 h
    subst hT0
    refine (divide_none v F w hv).mono ?_
    rintro e w' ⟨rfl, hb⟩
    exact ⟨_, [], rfl, World.ownsRow_nil _ _ _ _, by unfold splitL; rw [divL_nil]; exact FLs.nil _ _, by simp, hb⟩
  · exact divide_some T v F w hv hT h

theorem bytes_step (f : List UInt8) (j : Nat) (h : j < f.length) : bytesV (f.take j) ++ [Value.int .u8 (f[j].toNat : Int)] = bytesV (f.take (j + 1)) := by
  rw [List.take_add_one, List.getElem?_eq_getElem h]
  show List.map _ _ ++ _ = List.map _ (f.take j ++ _)
  rw [List.map_append]; rfl
/-- 'string(b)' of an own row -/
theorem row_string {w : World} {B n : Nat} {v : Value} {l : List UInt8} (h : w.ownsRow B 5 1 v n (bytesV l)) : (convert 64 9 v).run Tryd.prog w = .ok (.string ⟨l.toArray⟩) w := by
  have hn : l.length = n := by have := h.1; simpa [bytesV] using this
  subst hn
  rcases h.2 with ⟨rfl, h0⟩ | ⟨g, cap, cur, rfl, _⟩
  · have : l = [] := List.length_eq_zero_iff.1 h0
    subst this
    rw [run_convert_bytes_string w 64 9 5 none 0 0 Tryd.underlying64 Tryd.underlying5 Tryd.underlying9]
    simp [Conv.bytesToString]
    rfl
  · exact run_convert_bytes_back w 64 9 5 ⟨g, 0, none⟩ cap l Tryd.underlying64 Tryd.underlying5 Tryd.underlying9 (fun j hj => h.cells (g := g) rfl j _ (by simp [bytesV, hj]))

set_option maxRecDepth 100000 in
set_option maxHeartbeats 3200000 in
theorem rsplit_any (t s : ByteArray) (w : World) (ht : t.size ≤ 1000000000) :
    Calls Tryd.prog 12 #[.string t, .string s] w fun e w' => ∃ v, e = .returned v ∧ SL w' v ((splitL t.data.toList s.data.toList).map fun l => ⟨l.toArray⟩) ∧ Below w.heap.size w w' := by
  obtain ⟨i0, hi0, hz0, hz1, hz2⟩ := info_parts strInfo
  obtain ⟨i1, hi1, hy0, hy1, hy2⟩ := info_parts byteInfo
  have hTn : t.data.toList.length = t.size := size_toList t
  have hT2 : t.data.toList.length ≤ 1000000000 := by omega
  have HDV := Lib.hid (fun W v (hv : ML m2 W v t.data.toList) => divide_any t.data.toList v s W hv hT2)
  obtain ⟨fs, hfs⟩ : ∃ fs, splitL t.data.toList s.data.toList = fs := ⟨_, rfl⟩
  rw [hfs] at HDV ⊢
  have HFLn := Lib.hid (show ∀ f ∈ fs, f.length ≤ t.data.toList.length from fun f hf => by
    rw [← hfs] at hf
    have := divL_field _ _ _ _ _ (Nat.le_refl _) f hf
    simpa using this)
  clear hfs
  go_enter Tryd.func12, Tryd.ntmps12
  go_wp2_with fail
  refine (marks_any t w ht).mono ?_
  rintro e w1 ⟨v1, rfl, hm1, hb1⟩
  have HM1 := Lib.hid hm1
  obtain ⟨A1, c1, rfl, _, hz⟩ := hm1
  clear hz
  have HB1 := Lib.hid hb1
  clear hb1
  go_wp2_with fail
  refine (HDV.out _ _ HM1.out).mono ?_
  rintro e w2 ⟨vo, vs, rfl, ho2, hf2, hl2, hb2⟩
  have HB2 := Lib.hid (HB1.out.trans (hb2.mono HB1.out.size))
  have HF2 := Lib.hid hf2
  have HO2 := Lib.hid ho2
  have hvf : vs.length = fs.length := hf2.1
  clear hb2 hf2
  rcases ho2.2 with ⟨rfl, hv0⟩ | ⟨g, cap, cur, rfl, hbg, hgg, hnc, hcm, hcs, htk⟩
  · have hfs0 : fs = [] := List.length_eq_zero_iff.1 (by omega)
    subst hfs0
    clear ho2
    go_wp2_with fail
    go_loopw [5, 16] (fun s5 i wr => s5 = .slice none 0 0 ∧ i = .int .i64 0 ∧ Hid (Below w.heap.size w wr)) (fun _ _ _ => 0)
    case atStart => exact ⟨rfl, rfl, HB2.out⟩
    case round =>
      obtain ⟨rfl, rfl, HBr⟩ := hrel
      go_wp2_with fail
      go_ret
      exact ⟨_, rfl, ⟨none, 0, rfl, Nat.le_refl _, fun h => by simp at h⟩, HBr.out⟩
  · have hgl : g < w2.heap.size := (Array.getElem?_eq_some_iff.1 hgg).1
    clear ho2 hgg hcs htk hbg
    go_wp2_with fail
    go_loopw [5, 16] (fun s5 i wr => ∃ (so : Value) (k : Nat), so = s5 ∧ i = .int .i64 (k : Int) ∧ k ≤ vs.length ∧ Hid (wr.ownsRow w2.heap.size 9 1 so k ((fs.take k).map strV)) ∧ Hid (Below w2.heap.size w2 wr)) (fun _ i _ => vs.length - (intOf i).toNat)
    case atStart => exact ⟨_, 0, rfl, rfl, Nat.zero_le _, World.ownsRow_nil _ _ _ _, Below.refl _ _⟩
    case round =>
      obtain ⟨so, k, rfl, rfl, hk, HO, HBr⟩ := hrel
      by_cases hlt : k < vs.length
      · have h1 := (HBr.out.cell (p := ⟨g, k, none⟩) hgl).trans (HO2.out.cellAt k (by omega))
        rw [List.getElem?_eq_getElem hlt] at h1
        have hml := (HF2.out.2 k hlt (by omega)).keep HBr.out
        have HTK := Lib.hid (take_map fs k (by omega))
        have hfl : fs[k].length ≤ 1000000000 := by
          have h2 := HFLn.out fs[k] (List.getElem_mem _)
          omega
        generalize vs[k] = u at *
        generalize fs[k] = f at *
        have HML := Lib.hid hml
        obtain ⟨A3, c3, rfl, hc3, hz3⟩ := hml
        clear hz3
        have hgr : g < wr.heap.size := Nat.lt_of_lt_of_le hgl HBr.out.size
        have hlt2 : k < fs.length := by omega
        go_wp2_with fail
        clear h1
        obtain ⟨wo, hwo⟩ : ∃ wo, wo = wr := ⟨_, rfl⟩
        subst hwo
        go_loopw [8, 22] (fun s8 i wx => ∃ (sv : Value) (j : Nat), sv = s8 ∧ i = .int .i64 (j : Int) ∧ j ≤ f.length ∧ Hid (wx.ownsRow wo.heap.size 5 1 sv j (bytesV (f.take j))) ∧ Hid (Below wo.heap.size wo wx)) (fun _ i _ => f.length - (intOf i).toNat)
        case atStart => exact ⟨_, 0, rfl, rfl, Nat.zero_le _, World.ownsRow_nil _ _ _ _, Below.refl _ _⟩
        case round =>
          obtain ⟨sv, j, rfl, rfl, hj, HV, HBx⟩ := hrel
          by_cases hlj : j < f.length
          · obtain ⟨b, off, hA, hb, h2, h3⟩ := (HML.out.keep HBx.out).at hlj
            have HST := Lib.hid (bytes_step f j hlj)
            generalize f[j] = ch at *
            go_upto_region 9 with fail
            have hp := two_cells' wr (.int .u8 (ch.toNat : Int)) m2 66
            have HV2 := Lib.hid (HV.out.alloc (.cells #[.int .u8 (ch.toNat : Int), m2] 66))
            have HBx2 := Lib.hid (HBx.out.alloc HBx.out.size (.cells #[.int .u8 (ch.toNat : Int), m2] 66))
            have hgy : wr.heap.size < (wr.alloc (.cells #[.int .u8 (ch.toNat : Int), m2] 66)).heap.size := by simp
            generalize wr.alloc (.cells #[.int .u8 (ch.toNat : Int), m2] 66) = wy at *
            generalize wr.heap.size = gx at *
            obtain ⟨hp0, hp1⟩ := hp
            have HVa := Lib.hid (HV2.out.alloc (.cells #[.int .u8 (ch.toNat : Int)] 5))
            have HN := Lib.hid (new_one wy (.int .u8 (ch.toNat : Int)) 5)
            have hszy := HBx2.out.size
            clear h2 h3 hb hA
            go_wp2_with (at_builtin; refine wpList_append_own _ rfl _ _ 64 rfl wo.heap.size 5 i1 (.int .u8 0) 1 1 Tryd.underlying64 hi1 hy0 hy1 hy2 rfl (by decide) sv j _ rfl HVa.out ⟨wy.heap.size, 0, none⟩ 1 1 [.int .u8 (ch.toNat : Int)] rfl rfl HN.out (fun z hz => by simp at hz; subst hz; rfl) ?c3 ?c4 ?c5 ?_)
            case c3 => unfold maxLen; omega
            case c4 => omega
            case c5 => simp; omega
            intro v6 w6 hown6 hg6 _
            have hown7 : w6.ownsRow wo.heap.size 5 1 v6 (j + 1) (bytesV (f.take (j + 1))) := by rw [← HST.out]; first | exact hown6 | simpa using hown6
            have HV6 := Lib.hid hown7
            have HB6 := Lib.hid ((HBx2.out.alloc hszy (.cells #[.int .u8 (ch.toNat : Int)] 5)).grown hg6 (by simp; omega) (fun g hg => (HVa.out.lt g hg).1))
            clear hown6 hown7 hg6 hp0 hp1 hgy
            go_wp2_with fail
            go_roundw
            case rel => exact ⟨v6, j + 1, rfl, by go_num, by omega, HV6, HB6⟩
            case measure => simp [intOf]; omega
          · have hje : j = f.length := by omega
            have hv3 : wr.ownsRow wo.heap.size 5 1 sv f.length (bytesV f) := by
              have h4 := HV.out
              rw [hje, List.take_length] at h4
              exact h4
            have hcv := row_string hv3
            have HO3 := Lib.hid (HO.out.kept (row := none) ⟨HBx.out.os, HBx.out.tape, HBx.out.output, HBx.out.size, fun k hk _ => HBx.out.block k hk⟩ (by cases so.ownBlock <;> simp))
            have HB3 := Lib.hid (HBr.out.trans (HBx.out.mono HBr.out.size))
            have HOa := Lib.hid (HO3.out.alloc (.cells #[.string ⟨f.toArray⟩] 9))
            have HN := Lib.hid (new_one wr (.string ⟨f.toArray⟩) 9)
            have hsz3 := HB3.out.size
            clear hv3 hje
            go_wp2_with (at_builtin; refine wpList_append_own _ rfl _ _ 33 rfl w2.heap.size 9 i0 (.string ⟨#[]⟩) 1 16 Tryd.underlying33 hi0 hz0 hz1 hz2 rfl (by decide) so k _ rfl HOa.out ⟨wr.heap.size, 0, none⟩ 1 1 [.string ⟨f.toArray⟩] rfl rfl HN.out (fun z hz => by simp at hz; subst hz; rfl) ?c3 ?c4 ?c5 ?_)
            case c3 => unfold maxLen; omega
            case c4 => omega
            case c5 => simp; omega
            intro v6 w6 hown6 hg6 _
            have hown7 : w6.ownsRow w2.heap.size 9 1 v6 (k + 1) ((fs.take (k + 1)).map strV) := by rw [← HTK.out, List.map_take]; exact hown6
            have HO6 := Lib.hid hown7
            have HB6 := Lib.hid ((HB3.out.alloc hsz3 (.cells #[.string ⟨f.toArray⟩] 9)).grown hg6 (by simp; omega) (fun g hg => (HOa.out.lt g hg).1))
            clear hown6 hown7 hg6 hcv
            go_wp2_with fail
            go_roundw
            case rel => exact ⟨v6, k + 1, rfl, by go_num, by omega, HO6, HB6⟩
            case measure => simp [intOf]; omega
      · have hkf : k = fs.length := by omega
        have HOE := Lib.hid (show wr.ownsRow w2.heap.size 9 1 so (fs.map fun l => (⟨l.toArray⟩ : ByteArray)).length ((fs.map fun l => (⟨l.toArray⟩ : ByteArray)).map Value.string) by
          have h1 := HO.out
          rw [hkf, List.take_length] at h1
          rw [List.length_map, List.map_map]
          exact h1)
        have HBe := Lib.hid (HB2.out.trans (HBr.out.mono HB2.out.size))
        clear HO
        go_wp2_with fail
        go_ret
        exact ⟨so, rfl, SL.of_own HOE.out, HBe.out⟩

end Go.Proofs.YtbgmjmooifjhjaaDoor
