/- The tree's lists: an entry is loaded. -/
import Derived.Test.YtclhdppepopgeaaGreatDoorTrLd
import Derived.Test.YtclhdppepopgeaaGreatDoorTrRight
import Derived.BigQuiet
import Derived.Test.YtclhdppepopgeaaGreatDoorTail
import Derived.StillTailTactics
namespace Go.Proofs.YtclhdppepopgeaaGreatDoor
open Go.RowKit

/-- what comes out of a step -/
def Stepped (w0 : World) (B : Nat) (s : TS) (e : FE) (t mn kn x vb vo vc : Nat) (r : Ending) (w' : World) : Prop :=
  Below B w0 w' ∧ ((stepT s e = none ∧ r = .returned (.bool false)) ∨ ∃ s' nb' eb' ch', stepT s e = some s' ∧ r = .returned (.bool true) ∧ LD w' B s' t mn kn x nb' eb' ch' vb vo vc)
theorem last_some {p : ByteArray} {k : Nat} (h : lastSlash p = some k) : Lib.lastIndexByte p 47 = (k : Int) ∧ k < p.size := by
  unfold lastSlash at h
  rcases Lib.lastIndexByte_spec p 47 with ⟨h1, _⟩ | ⟨i, h1, h2, _⟩
  · rw [h1] at h; cases h
  · rw [h2] at h ⊢
    rw [if_neg (by omega)] at h
    injection h with h
    subst h
    exact ⟨by simp, by simpa using h1⟩
theorem last_none {p : ByteArray} (h : lastSlash p = none) : Lib.lastIndexByte p 47 < 0 := by
  unfold lastSlash at h
  by_cases hc : Lib.lastIndexByte p 47 < 0
  · exact hc
  · rw [if_neg hc] at h; cases h

theorem getI_range_none (nb : Nat → Nat) (n : Nat) : getI ((List.range n).map fun i => (((i + 1 : Nat) : Int), ptr (nb i))) ((n + 1 : Nat) : Int) = none := by
  have key : ∀ (l : List Nat), (∀ i ∈ l, i < n) → getI (l.map fun i => (((i + 1 : Nat) : Int), ptr (nb i))) ((n + 1 : Nat) : Int) = none := fun l => by
    induction l with
    | nil => intro _; rfl
    | cons x l ih =>
      intro h
      have hx := h x List.mem_cons_self
      rw [List.map_cons, getI, if_neg (by show ¬ ((x + 1 : Nat) : Int) = ((n + 1 : Nat) : Int); omega)]
      exact ih fun i hi => h i (List.mem_cons_of_mem _ hi)
  exact key _ fun i hi => List.mem_range.1 hi
/-- an entry of a node that is there -/
theorem LD.entry {w w' : World} {B : Nat} {s : TS} {t mn kn x : Nat} {nb eb : Nat → Nat} {ch : Int} {vb vo vc : Nat} (h : LD w B s t mn kn x nb eb ch vb vo vc) {d j : Nat} (hd : d < s.nds.length) (hdd : dirK (s.nd d) = true) (hj : j < s.nds.length) {s' : TS} (hs : s'.nds = s.nds)
    (htc : TC NodeAt w' B s' mn kn nb eb) (hF : Fx (fun b => b = eb d ∨ b = nb j) w w') : LD w' B s' t mn kn x nb eb ch vb vo vc :=
  h.turn hF (fun b hb => by
    rcases hb with rfl | rfl
    · exact MN.map (h.tc.ents d hd hdd)
    · exact MN.node (h.tc.node j hj)) htc (by rw [hs]) rfl
/-- what a new node's step leaves -/
theorem step_new {s : TS} {N : Nat} (hw : WF s N) (nd : ND) (path nm : ByteArray) (d : Nat) (hd : d < s.nds.length) (hnew : getA s.known path = none) :
    some (TS.mk (s.nds ++ [nd]) (s.ents.set d (s.en d ++ [(nm, s.nds.length)]) ++ [[]]) (putA s.known path s.nds.length)) = some (TS.mk (s.nds ++ [nd]) ((s.ents ++ [[]]).set d ((TS.mk (s.nds ++ [nd]) (s.ents ++ [[]]) (s.known ++ [(path, s.nds.length)])).en d ++ [(nm, s.nds.length)])) (s.known ++ [(path, s.nds.length)])) := by
  have hl : d < s.ents.length := by rw [hw.len]; exact hd
  have he : (TS.mk (s.nds ++ [nd]) (s.ents ++ [[]]) (s.known ++ [(path, s.nds.length)])).en d = s.en d := by
    unfold TS.en
    rw [List.getD, List.getElem?_append_left hl]
    rfl
  rw [he, putA_new _ _ _ hnew, List.set_append_left _ _ hl]
set_option maxRecDepth 100000 in
set_option maxHeartbeats 12800000 in
theorem load_any (w : World) (B : Nat) (s : TS) (t mn kn x : Nat) (nb eb : Nat → Nat) (ch : Int) (vb vo vc : Nat) (h : LD w B s t mn kn x nb eb ch vb vo vc) (N : Nat) (hw : WF s N) (hN : N ≤ 3000) (hki : KI s) (hBw : B ≤ w.heap.size) (e : FE) (hp : e.path.size < 4611686018427387904) (ht : e.text.size ≤ maxLen) :
    Calls Tryz.prog 22 #[ptr x, feV e] w (Stepped w B s e t mn kn x vb vo vc) := by
  obtain ⟨b, hb⟩ : ∃ x, x = w.heap.size := ⟨_, rfl⟩
  obtain ⟨W0, hW0⟩ : ∃ z, z = w.alloc (.cells #[.string e.path, .int .i64 e.kind, .int .i64 e.mode, .int .i64 e.user, .int .i64 e.group, .string e.text, .int .i64 e.changed, .string e.same] 33) := ⟨_, rfl⟩
  have HB0 : Hid (Below w.heap.size w W0) := Lib.hid (by rw [hW0]; exact (Below.refl _ w).alloc (Nat.le_refl _) _)
  have HX : Hid (FeAt W0 b e) := Lib.hid (by rw [hW0, hb]; exact heap_alloc_new w _)
  have HWE : Hid (w.alloc (.cells #[.string e.path, .int .i64 e.kind, .int .i64 e.mode, .int .i64 e.user, .int .i64 e.group, .string e.text, .int .i64 e.changed, .string e.same] 33) = W0) := Lib.hid hW0.symm
  have HBE : Hid (w.heap.size = b) := Lib.hid hb.symm
  have HL := Lib.hid h
  have HWF := Lib.hid hw
  have HKI := Lib.hid hki
  have HRI := Lib.hid (fun W => right_any e W ht)
  obtain ⟨x0, x1, x2, x3, x4, x5, x6, x7⟩ := HX.out.cells
  have HLI := Lib.hid (fun W => Tryz.strings_LastIndexByte e.path 47 hp W)
  obtain ⟨Q, hQ⟩ : ∃ Q, Q = Stepped w B s e t mn kn x vb vo vc := ⟨_, rfl⟩
  rw [← hQ]
  have HQ := Lib.hid hQ
  clear hQ hb hW0 h hw hki
  cases hk : lastSlash e.path with
  | none =>
    have hneg := last_none hk
    have HF : Hid (stepT s e = none) := Lib.hid (step_no hk)
    have HFB : Hid (∀ w', Below w.heap.size w w' → Q (.returned (.bool false)) w') := Lib.hid (fun w' hb => by rw [HQ.out]; exact ⟨hb.mono hBw, .inl ⟨HF.out, rfl⟩⟩)
    generalize Lib.lastIndexByte e.path 47 = z at *
    clear hk
    go_enter Tryz.func22, Tryz.ntmps22
    go_upto_region 1 with fail
    rw [HBE.out, HWE.out]
    go_wp2_with fail
    refine (HLI.out _).mono ?_
    rintro r w1 ⟨rfl, rfl⟩
    go_wp2_with fail
    exact HFB.out _ HB0.out
  | some k =>
    obtain ⟨hkz, hkl⟩ := last_some hk
    rw [hkz] at HLI
    have HST := Lib.hid (step_of (s := s) hk)
    have HKE := Lib.hid hk
    clear hk hkz
    go_enter Tryz.func22, Tryz.ntmps22
    go_upto_region 1 with fail
    rw [HBE.out, HWE.out]
    go_wp2_with fail
    refine (HLI.out _).mono ?_
    rintro r w1 ⟨rfl, rfl⟩
    go_wp2_with fail
    refine (HRI.out _).mono ?_
    rintro r w2 ⟨rfl, hb2⟩
    have HB2 : Hid (Below w.heap.size w w2) := Lib.hid (HB0.out.trans (hb2.mono HB0.out.size))
    have HX2 := Lib.hid (HX.out.keep hb2)
    obtain ⟨y0, y1, y2, y3, y4, y5, y6, y7⟩ := HX2.out.cells
    clear hb2 x0 x1 x2 x3 x4 x5 x6 x7 HX HB0
    have HFB : Hid (stepT s e = none → ∀ w', Below w.heap.size w w' → Q (.returned (.bool false)) w') := Lib.hid (fun hf w' hb => by rw [HQ.out]; exact ⟨hb.mono hBw, .inl ⟨hf, rfl⟩⟩)
    cases hr : rightB e with
    | false =>
      have HF := Lib.hid (HFB.out (by rw [HST.out, if_pos hr]))
      clear hr
      go_wp2_with fail
      exact HF.out _ HB2.out
    | true =>
      have HR := Lib.hid hr
      clear hr
      have hk1 : IntKind.i64.wrap ((k : Int) + 1) = ((k + 1 : Nat) : Int) := IntWalk.i64_in _ (by omega)
      obtain ⟨b0, hb0⟩ : ∃ b, b = ((k : Int) == 0) := ⟨_, rfl⟩
      have HUP : Hid (b0 = true → upP e.path k = slash) := Lib.hid (fun hb => by
        rw [hb0] at hb
        have : k = 0 := by simpa using hb
        unfold upP
        rw [if_pos this])
      have HUP2 : Hid (b0 = false → upP e.path k = e.path.extract 0 k) := Lib.hid (fun hb => by
        rw [hb0] at hb
        have : k ≠ 0 := by simpa using hb
        unfold upP
        rw [if_neg this])
      go_upto_if 25 with fail
      rw [← hb0]
      clear hb0
      go_cut [6] (fun s6 wx => s6 = .string (upP e.path k) ∧ wx = w2)
      case first =>
        cases b0 with
        | false =>
          have hu := HUP2.out rfl
          go_wp2_with fail
          go_meet
          exact ⟨by rw [hu], rfl⟩
        | true =>
          have hu := HUP.out rfl
          go_wp2_with fail
          go_meet
          exact ⟨by rw [hu]; rfl, rfl⟩
      case rest =>
        obtain ⟨rfl, rfl⟩ := hcut
        have hL2 := HL.out.keep HB2.out
        have xb := hL2.box
        have z1 : wc.cell? ⟨x, 1, none⟩ = some (.map (some kn)) := by simp [World.cell?, xb]
        obtain ⟨dv, hdv⟩ : ∃ dv, dv = (match getA s.known (upP e.path k) with | some j => ptr (nb j) | none => .pointer none) := ⟨_, rfl⟩
        have hlk : ∀ n, (Instr.lookup 68 (.map (some kn)) (.string (upP e.path k)) false).run Tryz.prog (wc.drewN n) = .ok dv (wc.drewN n) := fun n => by
          rw [hdv]
          exact (hL2.keep (below_drewN (Below.refl _ wc) n)).byPath _
        have HDV := Lib.hid hdv
        clear hL2 xb hdv
        obtain ⟨nm, hnm⟩ : ∃ nm, nm = e.path.extract (k + 1) e.path.size := ⟨_, rfl⟩
        have HNM : Hid (lastP e.path k = nm) := Lib.hid hnm.symm
        have HNE : Hid (e.path.extract (k + 1) e.path.size = nm) := Lib.hid hnm.symm
        clear hnm
        have hns : nm.size ≤ maxLen := by
          rw [← HNE.out, ByteArray.size_extract]
          exact Nat.le_trans (Nat.le_trans (Nat.sub_le _ _) (Nat.min_le_right _ _)) (Nat.le_trans (Nat.le_of_lt hp) (by decide))
        go_upto_region 7 with fail
        go_quiet (fail)
        rw [HNE.out]
        have hb4 := below_drewN (Below.refl wc.heap.size wc) nq
        generalize wc.drewN nq = w4 at *
        have HB4 : Hid (Below w.heap.size w w4) := Lib.hid (HB2.out.trans (hb4.mono HB2.out.size))
        have HX4 := Lib.hid (HX2.out.keep hb4)
        obtain ⟨v0, v1, v2, v3, v4, v5, v6, v7⟩ := HX4.out.cells
        clear hb4 y0 y1 y2 y3 y4 y5 y6 y7 hlk z1 HX2 HB2 nq hk1
        cases hg : getA s.known (upP e.path k) with
        | none =>
          have HF := Lib.hid (HFB.out (by rw [HST.out, if_neg (by rw [HR.out]; decide), hg]))
          have hd2 : dv = .pointer none := by rw [HDV.out, hg]
          subst hd2
          clear hg
          go_wp2_with fail
          exact HF.out _ HB4.out
        | some d =>
          have hd2 : dv = ptr (nb d) := by rw [HDV.out, hg]
          subst hd2
          have hdl : d < s.nds.length := HWF.out.kn _ (getA_mem _ _ _ hg)
          have HS2 := Lib.hid (HST.out)
          rw [if_neg (show ¬ rightB e = false by rw [HR.out]; decide), hg] at HS2
          dsimp only at HS2
          rw [HNM.out] at HS2
          have HG := Lib.hid hg
          have hL4 := HL.out.keep HB4.out
          have n2 := (hL4.tc.node d hdl).cells.2.2.1
          have HD := Lib.hid (isDir_any (nb d) _ w4 n2)
          rw [show ((s.nd d).kind == 2) = dirK (s.nd d) from rfl] at HD
          clear hL4 n2 hg HDV HST
          go_wp2_with fail
          refine HD.out.mono ?_
          rintro r w5 ⟨rfl, rfl⟩
          cases hdd : dirK (s.nd d) with
          | false =>
            have HF := Lib.hid (HFB.out (by rw [HS2.out, if_pos hdd]))
            clear hdd
            go_wp2_with fail
            exact HF.out _ HB4.out
          | true =>
            have HDD := Lib.hid hdd
            have HS3 := Lib.hid (HS2.out)
            rw [if_neg (show ¬ dirK (s.nd d) = false by rw [hdd]; decide)] at HS3
            clear hdd HS2 HD
            go_wp2_with fail
            refine (isName_any nm w5 hns).mono ?_
            rintro r w6 ⟨rfl, hb6⟩
            have HB6 : Hid (Below w.heap.size w w6) := Lib.hid (HB4.out.trans (hb6.mono HB4.out.size))
            have HX6 := Lib.hid (HX4.out.keep hb6)
            obtain ⟨y0, y1, y2, y3, y4, y5, y6, y7⟩ := HX6.out.cells
            clear hb6 v0 v1 v2 v3 v4 v5 v6 v7 HX4 HB4
            cases hno : nameOk nm with
            | false =>
              have HF := Lib.hid (HFB.out (by rw [HS3.out, if_pos hno]))
              clear hno
              go_wp2_with fail
              exact HF.out _ HB6.out
            | true =>
              have HNO := Lib.hid hno
              have HS4 := Lib.hid (HS3.out)
              rw [if_neg (show ¬ nameOk nm = false by rw [hno]; decide)] at HS4
              have hL6 := HL.out.keep HB6.out
              have n11 : w6.cell? ⟨nb d, 11, none⟩ = some (.map (some (eb d))) := by
                have := (hL6.tc.node d hdl).cells.2.2.2.2.2.2.2.2
                unfold evV at this
                rw [HDD.out] at this
                exact this
              obtain ⟨ev, hev⟩ : ∃ ev, ev = (match getA (s.en d) nm with | some j => ptr (nb j) | none => .pointer none) := ⟨_, rfl⟩
              have hle : (Instr.lookup 68 (.map (some (eb d))) (.string nm) false).run Tryz.prog w6 = .ok ev w6 := by
                rw [hev]
                exact hL6.tm.byName d hdl HDD.out nm
              have HEV := Lib.hid hev
              clear hno hL6 hev HS3
              cases hge : getA (s.en d) nm with
              | some j =>
                have HF := Lib.hid (HFB.out (by rw [HS4.out, if_pos (by rw [hge]; rfl)]))
                have he2 : ev = ptr (nb j) := by rw [HEV.out, hge]
                subst he2
                clear hge
                go_wp2_with fail
                exact HF.out _ HB6.out
              | none =>
                have HGE := Lib.hid hge
                have HS5 := Lib.hid (HS4.out)
                rw [if_neg (show ¬ (getA (s.en d) nm).isSome = true by rw [hge]; decide)] at HS5
                have he2 : ev = .pointer none := by rw [HEV.out, hge]
                subst he2
                have hL6 := HL.out.keep HB6.out
                have xb := hL6.box
                have z0 : w6.cell? ⟨x, 0, none⟩ = some (ptr t) := by simp [World.cell?, xb]
                have z1 : w6.cell? ⟨x, 1, none⟩ = some (.map (some kn)) := by simp [World.cell?, xb]
                obtain ⟨sv, hsv⟩ : ∃ sv, sv = (match getA s.known e.same with | some j => ptr (nb j) | none => .pointer none) := ⟨_, rfl⟩
                have hlk : ∀ n, (Instr.lookup 68 (.map (some kn)) (.string e.same) false).run Tryz.prog (w6.drewN n) = .ok sv (w6.drewN n) := fun n => by
                  rw [hsv]
                  exact (hL6.keep (below_drewN (Below.refl _ w6) n)).byPath _
                have HSV := Lib.hid hsv
                clear hge hL6 xb hsv HS4 HEV
                go_upto_region 10 with fail
                clear hle n11
                go_quiet (fail)
                have hb7 := below_drewN (Below.refl w6.heap.size w6) nq
                generalize w6.drewN nq = w7 at *
                have HB7 : Hid (Below w.heap.size w w7) := Lib.hid (HB6.out.trans (hb7.mono HB6.out.size))
                have HX7 := Lib.hid (HX6.out.keep hb7)
                obtain ⟨v0, v1, v2, v3, v4, v5, v6, v7⟩ := HX7.out.cells
                clear hb7 y0 y1 y2 y3 y4 y5 y6 y7 hlk z0 z1 HX6 HB6 nq
                by_cases hsm : e.same = noneB
                · have HSM := Lib.hid hsm
                  have HS6 := Lib.hid (HS5.out)
                  rw [if_pos hsm] at HS6
                  have hemp : (e.same.toList == []) = true := by rw [empty_dec, decide_eq_true hsm]
                  clear hsm HS5 HSV
                  have HL7 := Lib.hid (HL.out.keep HB7.out)
                  obtain ⟨y, hy⟩ : ∃ y, y = w7.heap.size := ⟨_, rfl⟩
                  obtain ⟨W1, hW1⟩ : ∃ z, z = (w7.alloc (.cells (rawC e.node) 70)).drew := ⟨_, rfl⟩
                  have hb1 : Below w7.heap.size w7 W1 := by rw [hW1]; exact ((Below.refl _ w7).alloc (Nat.le_refl _) _).drew
                  have hL1 := HL7.out.keep hb1
                  have hy1 : W1.heap[y]? = some (.cells (rawC e.node) 70 (0, 0)) := by rw [hW1, hy]; exact heap_alloc_new w7 _
                  have hadd := add_any e.node t mn s.nds.length y (.int .i64 ch) (.slice (some ⟨vb, 0, none⟩) 1 vc) _ W1 hL1.tree hL1.tc.nodes (getI_range_none nb _) hy1 (by have := HWF.out.few; omega)
                  rw [hW1] at hadd
                  have HADD : Hid (Calls Tryz.prog 41 #[ptr t, ptr y] (w7.alloc (.cells #[.int .i64 0, .int .i64 0, .int .i64 e.kind, .int .i64 e.mode, .int .i64 e.user, .int .i64 e.group, .int .i64 e.changed, .int .i64 0, .int .i64 0, .int .i64 0, .string e.text, .map none] 70)).drew _) := Lib.hid hadd
                  have HW1 : Hid ((w7.alloc (.cells (rawC e.node) 70)).drew = W1) := Lib.hid hW1.symm
                  have HY : Hid (w7.heap.size = y) := Lib.hid hy.symm
                  have HB71 := Lib.hid hb1
                  clear hadd hL1 hy1 hb1 hW1 hy
                  have xb := HL7.out.box
                  have z0 : w7.cell? ⟨x, 0, none⟩ = some (ptr t) := by simp [World.cell?, xb]
                  clear xb
                  go_upto_region 12 with fail
                  refine wp_region_tailB 18 99 (fun W => W.cell? ⟨x, 0, none⟩ = some (ptr t) ∧ W.cell? ⟨b, 1, none⟩ = some (.int .i64 e.kind) ∧ W.cell? ⟨b, 2, none⟩ = some (.int .i64 e.mode) ∧ W.cell? ⟨b, 3, none⟩ = some (.int .i64 e.user) ∧ W.cell? ⟨b, 4, none⟩ = some (.int .i64 e.group) ∧ W.cell? ⟨b, 5, none⟩ = some (.string e.text) ∧ W.cell? ⟨b, 6, none⟩ = some (.int .i64 e.changed)) (by kernel_rfl) (by decide) (by kernel_rfl) ?_
                  intro hTB
                  have hS : w7.drew.cell? ⟨x, 0, none⟩ = some (ptr t) ∧ w7.drew.cell? ⟨b, 1, none⟩ = some (.int .i64 e.kind) ∧ w7.drew.cell? ⟨b, 2, none⟩ = some (.int .i64 e.mode) ∧ w7.drew.cell? ⟨b, 3, none⟩ = some (.int .i64 e.user) ∧ w7.drew.cell? ⟨b, 4, none⟩ = some (.int .i64 e.group) ∧ w7.drew.cell? ⟨b, 5, none⟩ = some (.string e.text) ∧ w7.drew.cell? ⟨b, 6, none⟩ = some (.int .i64 e.changed) := ⟨z0, v1, v2, v3, v4, v5, v6⟩
                  refine wpAnyT_take 99 0 (v := ?_) hTB rfl (by kernel_rfl) (fun _ _ _ h => h) (Or.inl ⟨by rfl, fun W hW => ?_⟩) (by with_reducible assumption) ?_
                  rotate_left
                  focus ((try dsimp only at hW); (try obtain ⟨hW0, hW1, hW2, hW3, hW4, hW5, hW6⟩ := hW); go_simp; try with_reducible rfl)
                  refine wpAnyT_take 99 1 (v := ?_) hTB rfl (by kernel_rfl) (fun _ _ _ h => h) (Or.inl ⟨by rfl, fun W hW => ?_⟩) (by with_reducible assumption) ?_
                  rotate_left
                  focus ((try dsimp only at hW); (try obtain ⟨hW0, hW1, hW2, hW3, hW4, hW5, hW6⟩ := hW); go_simp; try with_reducible rfl)
                  refine wpAnyT_take 99 2 (v := ?_) hTB rfl (by kernel_rfl) (fun _ _ _ h => h) (Or.inl ⟨by rfl, fun W hW => ?_⟩) (by with_reducible assumption) ?_
                  rotate_left
                  focus ((try dsimp only at hW); (try obtain ⟨hW0, hW1, hW2, hW3, hW4, hW5, hW6⟩ := hW); go_simp; try with_reducible rfl)
                  refine wpAnyT_take 99 3 (v := ?_) hTB rfl (by kernel_rfl) (fun _ _ _ h => h) (Or.inl ⟨by rfl, fun W hW => ?_⟩) (by with_reducible assumption) ?_
                  rotate_left
                  focus ((try dsimp only at hW); (try obtain ⟨hW0, hW1, hW2, hW3, hW4, hW5, hW6⟩ := hW); go_simp; try with_reducible rfl)
                  refine wpAnyT_take 99 4 (v := ?_) hTB rfl (by kernel_rfl) (fun _ _ _ h => h) (Or.inl ⟨by rfl, fun W hW => ?_⟩) (by with_reducible assumption) ?_
                  rotate_left
                  focus ((try dsimp only at hW); (try obtain ⟨hW0, hW1, hW2, hW3, hW4, hW5, hW6⟩ := hW); go_simp; try with_reducible rfl)
                  refine wpAnyT_take 99 5 (v := ?_) hTB rfl (by kernel_rfl) (fun _ _ _ h => h) (Or.inl ⟨by rfl, fun W hW => ?_⟩) (by with_reducible assumption) ?_
                  rotate_left
                  focus ((try dsimp only at hW); (try obtain ⟨hW0, hW1, hW2, hW3, hW4, hW5, hW6⟩ := hW); go_simp; try with_reducible rfl)
                  refine wpAnyT_take 99 6 (v := ?_) hTB rfl (by kernel_rfl) (fun _ _ _ h => h) (Or.inl ⟨by rfl, fun W hW => ?_⟩) (by with_reducible assumption) ?_
                  rotate_left
                  focus ((try dsimp only at hW); (try obtain ⟨hW0, hW1, hW2, hW3, hW4, hW5, hW6⟩ := hW); go_simp; try with_reducible rfl)
                  refine wpAnyT_take 99 7 (v := ?_) hTB rfl (by kernel_rfl) (fun _ _ _ h => h) (Or.inl ⟨by rfl, fun W hW => ?_⟩) (by with_reducible assumption) ?_
                  rotate_left
                  focus ((try dsimp only at hW); (try obtain ⟨hW0, hW1, hW2, hW3, hW4, hW5, hW6⟩ := hW); go_simp; try with_reducible rfl)
                  refine wpAnyT_take 99 8 (v := ?_) hTB rfl (by kernel_rfl) (fun _ _ _ h => h) (Or.inl ⟨by rfl, fun W hW => ?_⟩) (by with_reducible assumption) ?_
                  rotate_left
                  focus ((try dsimp only at hW); (try obtain ⟨hW0, hW1, hW2, hW3, hW4, hW5, hW6⟩ := hW); go_simp; try with_reducible rfl)
                  refine wpAnyT_take 99 9 (v := ?_) hTB rfl (by kernel_rfl) (fun _ _ _ h => h) (Or.inl ⟨by rfl, fun W hW => ?_⟩) (by with_reducible assumption) ?_
                  rotate_left
                  focus ((try dsimp only at hW); (try obtain ⟨hW0, hW1, hW2, hW3, hW4, hW5, hW6⟩ := hW); go_simp; try with_reducible rfl)
                  refine wpAnyT_take 99 10 (v := ?_) hTB rfl (by kernel_rfl) (fun _ _ _ h => h) (Or.inl ⟨by rfl, fun W hW => ?_⟩) (by with_reducible assumption) ?_
                  rotate_left
                  focus ((try dsimp only at hW); (try obtain ⟨hW0, hW1, hW2, hW3, hW4, hW5, hW6⟩ := hW); go_simp; try with_reducible rfl)
                  refine wpAnyT_take 99 11 (v := ?_) hTB rfl (by kernel_rfl) (fun _ _ _ h => h) (Or.inl ⟨by rfl, fun W hW => ?_⟩) (by with_reducible assumption) ?_
                  rotate_left
                  focus ((try dsimp only at hW); (try obtain ⟨hW0, hW1, hW2, hW3, hW4, hW5, hW6⟩ := hW); go_simp; try with_reducible rfl)
                  refine wpAnyT_take 99 12 (v := ?_) hTB rfl (by kernel_rfl) (fun _ _ _ h => h) (Or.inl ⟨by rfl, fun W hW => ?_⟩) (by with_reducible assumption) ?_
                  rotate_left
                  focus ((try dsimp only at hW); (try obtain ⟨hW0, hW1, hW2, hW3, hW4, hW5, hW6⟩ := hW); go_simp; try with_reducible rfl)
                  refine wpAnyT_take 99 13 (v := ?_) hTB rfl (by kernel_rfl) (fun _ _ _ h => h) (Or.inl ⟨by rfl, fun W hW => ?_⟩) (by with_reducible assumption) ?_
                  rotate_left
                  focus ((try dsimp only at hW); (try obtain ⟨hW0, hW1, hW2, hW3, hW4, hW5, hW6⟩ := hW); go_simp; try with_reducible rfl)
                  refine wpAnyT_take 99 14 (v := ?_) hTB rfl (by kernel_rfl) (fun _ _ _ h => h) (Or.inl ⟨by rfl, fun W hW => ?_⟩) (by with_reducible assumption) ?_
                  rotate_left
                  focus ((try dsimp only at hW); (try obtain ⟨hW0, hW1, hW2, hW3, hW4, hW5, hW6⟩ := hW); go_simp; try with_reducible rfl)
                  refine wpAnyT_take 99 15 (v := ?_) hTB rfl (by kernel_rfl) (fun _ _ _ h => h) (Or.inl ⟨by rfl, fun W hW => ?_⟩) (by with_reducible assumption) ?_
                  rotate_left
                  focus ((try dsimp only at hW); (try obtain ⟨hW0, hW1, hW2, hW3, hW4, hW5, hW6⟩ := hW); go_simp; try with_reducible rfl)
                  refine wpAnyT_take 99 16 (v := ?_) hTB rfl (by kernel_rfl) (fun _ _ _ h => h) (Or.inl ⟨by rfl, fun W hW => ?_⟩) (by with_reducible assumption) ?_
                  rotate_left
                  focus ((try dsimp only at hW); (try obtain ⟨hW0, hW1, hW2, hW3, hW4, hW5, hW6⟩ := hW); go_simp; try with_reducible rfl)
                  simp only [Act.put, List.getElem_toArray, List.getElem_cons_zero, List.getElem_cons_succ, List.setIfInBounds_toArray, List.set_cons_zero, List.set_cons_succ]
                  refine wpAnyT_one 17 (by kernel_rfl) (by decide) ?_
                  refine wpOp_at rfl rfl (fun K hK => ?_)
                  go_simp
                  have hst : ∀ W : World, Below w7.heap.size w7 W → W.cell? ⟨x, 0, none⟩ = some (ptr t) ∧ W.cell? ⟨b, 1, none⟩ = some (.int .i64 e.kind) ∧ W.cell? ⟨b, 2, none⟩ = some (.int .i64 e.mode) ∧ W.cell? ⟨b, 3, none⟩ = some (.int .i64 e.user) ∧ W.cell? ⟨b, 4, none⟩ = some (.int .i64 e.group) ∧ W.cell? ⟨b, 5, none⟩ = some (.string e.text) ∧ W.cell? ⟨b, 6, none⟩ = some (.int .i64 e.changed) := fun W hb => by
                    have k := fun (p : Addr) x (hx : w7.cell? p = some x) => (hb.cell (p := p) (World.block_lt_of_cell? w7 _ hx)).trans hx
                    exact ⟨k _ _ z0, k _ _ v1, k _ _ v2, k _ _ v3, k _ _ v4, k _ _ v5, k _ _ v6⟩
                  refine hK.out _ _ ⟨hst _ (((Below.refl _ w7).drew).alloc (Nat.le_refl _) _), ?_⟩
                  clear hK K hst hS
                  try simp only [Act.put, List.getElem_toArray, List.getElem_cons_zero, List.getElem_cons_succ, List.setIfInBounds_toArray, List.set_cons_zero, List.set_cons_succ]
                  refine ⟨by kernel_rfl, ?_⟩
                  simp only [List.drop_succ_cons, List.drop_zero]
                  clear hTB
                  go_wp2_with fail
                  rw [HY.out]
                  refine HADD.out.mono ?_
                  rintro r w8 ⟨e0, rfl, ht8, hm8, hy8, he8, hF8⟩
                  rw [HW1.out] at he8 hF8
                  have hBw7 : B ≤ w7.heap.size := Nat.le_trans hBw HB7.out.size
                  have hyw : w7.heap.size ≤ y := Nat.le_of_eq HY.out
                  have hL8 := HL7.out.add HWF.out hBw7 e.node y e0 hyw HB71.out ht8 hm8 hy8 he8 hF8
                  have hXb : b < w7.heap.size := (Array.getElem?_eq_some_iff.1 HX7.out).1
                  have hX8 : FeAt w8 b e := by
                    have h1 : FeAt W1 b e := HX7.out.keep HB71.out
                    refine hF8.at h1 (fun hb => ?_)
                    rcases hb with hb | hb | hb
                    · have h2 := (HL7.out.keep HB71.out).tree
                      unfold FeAt at h1
                      rw [← hb, h1] at h2
                      injection h2 with h2
                      injection h2 with _ h2
                      cases h2
                    · exact map_ne (HL7.out.keep HB71.out).tc.nodes ⟨_, _, h1⟩ hb
                    · omega
                  have HB8 : Hid (Below B w w8) := Lib.hid ((HB7.out.mono hBw).trans ((HB71.out.mono hBw7).trans (hF8.below (fun b hb => by
                    rcases hb with rfl | rfl | rfl
                    · exact HL7.out.bt
                    · exact HL7.out.tc.bm
                    · omega) (Nat.le_trans hBw7 HB71.out.size))))
                  obtain ⟨n, hn⟩ : ∃ n, n = s.nds.length := ⟨_, rfl⟩
                  have hnew : getA s.known e.path = none := ki_new HKI.out e.path k d HKE.out HG.out (by rw [HNM.out]; exact HNO.out) (by rw [HNM.out]; exact HGE.out)
                  have hS2 := step_new HWF.out e.node e.path nm d hdl hnew
                  rw [← HS6.out] at hS2
                  obtain ⟨nb2, hnb2⟩ : ∃ f, f = upd nb s.nds.length y := ⟨_, rfl⟩
                  obtain ⟨eb2, heb2⟩ : ∃ f, f = upd eb s.nds.length e0 := ⟨_, rfl⟩
                  rw [← hnb2, ← heb2] at hL8
                  have hny : nb2 s.nds.length = y := by rw [hnb2, upd_same]
                  have hnd : nb2 d = nb d := by rw [hnb2, upd_other _ _ hdl]
                  -- the path is known
                  have hgs : getS (entL nb2 s.known) e.path = none := by rw [getS_ent, hnew]; rfl
                  obtain ⟨w9, hmu, hw9⟩ := put_s (P := Tryz.prog) mapE undS (show MapAt w8.drew kn (sL (entL nb2 s.known)) from hL8.tc.known) e.path (ptr y) hgs
                  have hL8d := hL8.keep (Below.refl _ w8).drew
                  have hF89 : Fx (fun b => b = kn) w8.drew w9 := by rw [hw9]; exact Fx.hset (S := fun b => b = kn) _ rfl _
                  have hL9 : LD w9 B ⟨s.nds ++ [e.node], s.ents ++ [[]], s.known ++ [(e.path, s.nds.length)]⟩ t mn kn x nb2 eb2 ch vb vo vc := hL8d.turn hF89 (fun b hb => by
                    subst hb
                    exact MN.map hL8d.tc.known) (by
                    rw [hw9]
                    exact hL8d.tc.know nodeOk e.path s.nds.length (by rw [hny])) rfl rfl
                  have hX9 : FeAt w9 b e := hF89.at (show w8.drew.heap[b]? = _ from hX8) (fun hb => map_ne hL8.tc.known ⟨_, _, hX8⟩ hb)
                  have HB9 : Hid (Below B w w9) := Lib.hid ((HB8.out.drew).trans (hF89.below (fun b hb => by subst hb; exact hL8.tc.bk) (Nat.le_trans hBw HB8.out.size)))
                  have xb8 := hL8.box
                  have z0 : w8.cell? ⟨x, 0, none⟩ = some (ptr t) := by simp [World.cell?, xb8]
                  have z1 : w8.cell? ⟨x, 1, none⟩ = some (.map (some kn)) := by simp [World.cell?, xb8]
                  obtain ⟨y0, _⟩ := hX8.cells
                  have HL9 := Lib.hid hL9
                  have HX9 := Lib.hid hX9
                  have HS7 := Lib.hid hS2
                  have HNY : Hid (nb2 s.nds.length = y ∧ nb2 d = nb d) := Lib.hid ⟨hny, hnd⟩
                  clear hL9 hX9 hS2 hw9 hF89 hL8d hgs hny hnd hnb2 heb2 hnew hn hX8 hL8 xb8 hXb hyw ht8 hm8 hy8 he8 hF8 hBw7 v0 v1 v2 v3 v4 v5 v6 v7 HB8 HX7 HADD
                  go_upto_region 13 with fail
                  go_still_tail 7, (by kernel_rfl)
                  change wpList _ _ _ _ _ w8.drew
                  generalize w8.drew = wd at *
                  clear z0 z1 y0
                  go_upto_region 14 with fail
                  clear hmu
                  obtain ⟨y0, y1, y2, y3, y4, y5, y6, y7⟩ := HX9.out.cells
                  have xb9 := HL9.out.box
                  have z0 : w9.cell? ⟨x, 0, none⟩ = some (ptr t) := by simp [World.cell?, xb9]
                  have tb9 := HL9.out.tree
                  have t2 : w9.cell? ⟨t, 2, none⟩ = some (.int .i64 ch) := by simp [World.cell?, tb9]
                  have t2f : w9.frozen? ⟨t, 2, none⟩ = false := by simp [World.frozen?, tb9]
                  clear xb9 tb9
                  go_still_tail 14, (by kernel_rfl)
                  change wpList _ _ _ _ _ w9.drew
                  have HL9d := Lib.hid (HL9.out.keep (Below.refl _ w9).drew)
                  have HX9d := Lib.hid (show FeAt w9.drew b e from HX9.out)
                  have HB9d := Lib.hid (HB9.out.drew)
                  have u2 : w9.drew.cell? ⟨t, 2, none⟩ = some (.int .i64 ch) := t2
                  have u2f : w9.drew.frozen? ⟨t, 2, none⟩ = false := t2f
                  clear y0 y1 y2 y3 y4 y5 y6 y7 z0 t2 t2f HL9 HX9 HB9
                  generalize w9.drew = wf at *
                  go_upto_region 15 with fail
                  have hL10 := HL9d.out.change (max ch e.changed)
                  have hX10 : FeAt (wf.setCell ⟨t, 2, none⟩ (.int .i64 (max ch e.changed))) b e := (heap_setCell_other wf ⟨t, 2, none⟩ b _ (fun hb => by
                    have h1 := HX9d.out
                    have h2 := HL9d.out.tree
                    have hb2 : b = t := hb
                    unfold FeAt at h1
                    rw [← hb2, h1] at h2
                    injection h2 with h2
                    injection h2 with _ h2
                    cases h2)).trans HX9d.out
                  have HB10 : Hid (Below B w (wf.setCell ⟨t, 2, none⟩ (.int .i64 (max ch e.changed)))) := Lib.hid (HB9d.out.setCell HL9d.out.bt _)
                  clear u2 u2f HL9d HX9d HB9d
                  generalize wf.setCell ⟨t, 2, none⟩ (.int .i64 (max ch e.changed)) = w10 at *
                  generalize max ch e.changed = ch2 at *
                  have HL10 := Lib.hid hL10
                  obtain ⟨_, _, _, _, _, _, _, y7⟩ := hX10.cells
                  obtain ⟨s2, hs2⟩ : ∃ s2 : TS, s2 = ⟨s.nds ++ [e.node], s.ents ++ [[]], s.known ++ [(e.path, s.nds.length)]⟩ := ⟨_, rfl⟩
                  have hl2 : s2.nds.length = s.nds.length + 1 := by rw [hs2]; simp
                  have hd2 : d < s2.nds.length := by omega
                  have hn2 : s.nds.length < s2.nds.length := by omega
                  have hdd2 : dirK (s2.nd d) = true := by
                    have : s2.nd d = s.nd d := by rw [hs2]; exact nd_old _ _ _ hdl
                    rw [this]
                    exact HDD.out
                  have hen2 : s2.en d = s.en d := by
                    rw [hs2]
                    unfold TS.en
                    rw [List.getD, List.getElem?_append_left (by rw [HWF.out.len]; exact hdl)]
                    rfl
                  rw [← hs2] at HL10
                  have hP := pput_any w10 B s2 mn kn nb2 eb2 HL10.out.tc (by rw [hs2]; simp [HWF.out.len]) d hd2 hdd2 nm s.nds.length hn2 (by rw [hen2]; exact HGE.out)
                  rw [HNY.out.1, HNY.out.2] at hP
                  have HP := Lib.hid hP
                  have HN2 : Hid (d < s2.nds.length ∧ s.nds.length < s2.nds.length ∧ dirK (s2.nd d) = true) := Lib.hid ⟨hd2, hn2, hdd2⟩
                  have HS8 : Hid (stepT s e = some ⟨s2.nds, s2.ents.set d (s2.en d ++ [(nm, s.nds.length)]), s2.known⟩) := Lib.hid (by rw [HS7.out, hs2])
                  clear hP hX10 hL10 hl2 hd2 hn2 hdd2 hen2 HS7 hs2
                  go_wp2_with fail
                  refine HP.out.mono ?_
                  rintro r w11 ⟨rfl, hT11, hF11⟩
                  have HQ11 : Hid (Q (.returned (.bool true)) w11) := Lib.hid (by
                    rw [HQ.out]
                    have hF11' : Fx (fun b => b = eb2 d ∨ b = nb2 s.nds.length) w10 w11 := by rw [HNY.out.1]; exact hF11
                    exact ⟨HB10.out.trans (HL10.out.above (Nat.le_trans hBw HB10.out.size) HN2.out.1 HN2.out.2.2 HN2.out.2.1 hF11'), .inr ⟨_, nb2, eb2, ch2, HS8.out, rfl, HL10.out.entry HN2.out.1 HN2.out.2.2 HN2.out.2.1 rfl hT11 hF11'⟩⟩)
                  clear hT11 hF11
                  go_wp2_with fail
                  exact HQ11.out
                · have HS6 := Lib.hid (HS5.out)
                  rw [if_neg hsm] at HS6
                  have hemp : (e.same.toList == []) = false := by rw [empty_dec, decide_eq_false hsm]
                  clear hsm HS5
                  cases hgs : getA s.known e.same with
                  | none =>
                    have HF := Lib.hid (HFB.out (by rw [HS6.out, hgs]))
                    have hs2 : sv = .pointer none := by rw [HSV.out, hgs]
                    subst hs2
                    clear hgs
                    go_wp2_with fail
                    exact HF.out _ HB7.out
                  | some j =>
                    have hs2 : sv = ptr (nb j) := by rw [HSV.out, hgs]
                    subst hs2
                    have hjl : j < s.nds.length := HWF.out.kn _ (getA_mem _ _ _ hgs)
                    rw [hgs] at HS6
                    dsimp only at HS6
                    have HL7 := Lib.hid (HL.out.keep HB7.out)
                    have HD := Lib.hid (isDir_any (nb j) _ w7 (HL7.out.tc.node j hjl).cells.2.2.1)
                    rw [show ((s.nd j).kind == 2) = dirK (s.nd j) from rfl] at HD
                    clear hgs HSV
                    go_wp2_with fail
                    refine HD.out.mono ?_
                    rintro r w8 ⟨rfl, rfl⟩
                    cases hdj : dirK (s.nd j) with
                    | true =>
                      have HF := Lib.hid (HFB.out (by rw [HS6.out, if_pos hdj]))
                      clear hdj
                      go_wp2_with fail
                      exact HF.out _ HB7.out
                    | false =>
                      have HS7 := Lib.hid (HS6.out)
                      rw [if_neg (show ¬ dirK (s.nd j) = true by rw [hdj]; decide)] at HS7
                      clear hdj HS6 HD
                      have HP := Lib.hid (pput_any w8 B s mn kn nb eb HL7.out.tc HWF.out.len d hdl HDD.out nm j hjl HGE.out)
                      go_wp2_with fail
                      refine HP.out.mono ?_
                      rintro r w9 ⟨rfl, hT9, hF9⟩
                      have HQ9 : Hid (Q (.returned (.bool true)) w9) := Lib.hid (by
                        rw [HQ.out]
                        exact ⟨(HB7.out.mono hBw).trans (HL7.out.above (Nat.le_trans hBw HB7.out.size) hdl HDD.out hjl hF9), .inr ⟨_, nb, eb, ch, HS7.out, rfl, HL7.out.entry hdl HDD.out hjl rfl hT9 hF9⟩⟩)
                      clear hT9 hF9
                      go_wp2_with fail
                      exact HQ9.out
end Go.Proofs.YtclhdppepopgeaaGreatDoor
