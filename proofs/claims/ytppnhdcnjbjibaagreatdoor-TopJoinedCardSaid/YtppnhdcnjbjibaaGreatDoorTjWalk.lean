/- TopJoined: the law's walk. (Printed by tools/gtjwalk.py.) -/
import Derived.Test.YtppnhdcnjbjibaaGreatDoorTjJoins
import Derived.Test.YtppnhdcnjbjibaaGreatDoorTjPaste
import Derived.Test.YtppnhdcnjbjibaaGreatDoorTjSorts
import Derived.Test.YtppnhdcnjbjibaaGreatDoorTjAny
namespace Go.Proofs.YtppnhdcnjbjibaaGreatDoor
open Go.RowKit

theorem indexAny_neg (l cs : List UInt8) : Lib.indexAny l cs < 0 ↔ ∀ c ∈ l, cs.contains c = false := by
  induction l with
  | nil => simp [Lib.indexAny]
  | cons b r ih =>
    have hge := Lib.indexAny_ge cs r
    cases hb : cs.contains b
    · rw [Lib.indexAny, if_neg (by rw [hb]; exact Bool.false_ne_true)]
      constructor
      · intro h c hc
        rcases List.mem_cons.1 hc with rfl | hc
        · exact hb
        · refine ih.1 ?_ c hc
          split at h
          · rename_i he; have := beq_iff_eq.1 he; omega
          · omega
      · intro h
        have := ih.2 fun c hc => h c (List.mem_cons_of_mem _ hc)
        rw [if_pos (by rw [beq_iff_eq]; omega)]; omega
    · rw [Lib.indexAny, if_pos hb]
      constructor
      · intro h; omega
      · intro h; have := h b (by simp); rw [hb] at this; cases this
/-- an element of a row -/
theorem run_ix3 (x y z : Value) (w : World) : (Instr.index 24 (.agg #[x, y, z]) (.int .i64 0)).run Tryz.prog w = .ok x w ∧ (Instr.index 24 (.agg #[x, y, z]) (.int .i64 1)).run Tryz.prog w = .ok y w ∧ (Instr.index 24 (.agg #[x, y, z]) (.int .i64 2)).run Tryz.prog w = .ok z w := by
  refine ⟨?_, ?_, ?_⟩ <;> simp [Instr.index, run_underlying Tryz.underlying24, asIntOf, go_sem]
theorem clean_ok {x : ByteArray} (h : cleanB (bl x) = true) (hs : ¬ 50 < x.size) : okT x := by
  unfold cleanB at h
  rw [decide_eq_true_iff, indexAny_neg] at h
  refine ⟨by omega, fun hc => ?_, fun hc => ?_⟩
  · have := h _ hc
    revert this
    decide
  · have := h _ hc
    revert this
    decide
/-- rows in memory -/
def RowsAt (w : World) (v : Value) (R : List R3) : Prop :=
  ∃ A c, v = .slice A R.length c ∧ R.length ≤ c ∧ (0 < R.length → ∃ b off, A = some ⟨b, off, none⟩ ∧ b < w.heap.size ∧ ∀ j (h : j < R.length), w.cell? ⟨b, off + j * 3, none⟩ = some (.string R[j].1) ∧ w.cell? ⟨b, off + j * 3 + 1, none⟩ = some (.string R[j].2.1) ∧ w.cell? ⟨b, off + j * 3 + 2, none⟩ = some (.string R[j].2.2))
theorem RowsAt.keep {w w' : World} {v : Value} {R : List R3} (h : RowsAt w v R) (hb : Below w.heap.size w w') : RowsAt w' v R := by
  obtain ⟨A, c, rfl, hc, h1⟩ := h
  refine ⟨A, c, rfl, hc, fun h0 => ?_⟩
  obtain ⟨b, off, rfl, hlt, hcell⟩ := h1 h0
  exact ⟨b, off, rfl, Nat.lt_of_lt_of_le hlt hb.size, fun j hj => ⟨(hb.cell (p := ⟨b, off + j * 3, none⟩) hlt).trans (hcell j hj).1, (hb.cell (p := ⟨b, off + j * 3 + 1, none⟩) hlt).trans (hcell j hj).2.1, (hb.cell (p := ⟨b, off + j * 3 + 2, none⟩) hlt).trans (hcell j hj).2.2⟩⟩
theorem three_at {w : World} {x : Nat} {T : TypeId} {u v z : Value} (h : w.heap[x]? = some (.cells #[u, v, z] T (0, 0))) : w.cell? ⟨x, 0, none⟩ = some u ∧ w.cell? ⟨x, 1, none⟩ = some v ∧ w.cell? ⟨x, 2, none⟩ = some z := by
  refine ⟨?_, ?_, ?_⟩ <;> (simp only [World.cell?, h]; rfl)
/-- the lines of the first rows -/
def headT (R : List R3) (k : Nat) : List UInt8 := txtL ((R.take k).map lnL)
theorem headT_next (R : List R3) (k : Nat) (h : k < R.length) : headT R (k + 1) = headT R k ++ (lnL R[k] ++ [10]) := by
  unfold headT
  rw [List.take_succ_eq_append_getElem h, List.map_append]
  exact txtL_snoc _ _
/-- the pairs that were counted behind so many rows -/
def wantT (R : List R3) (i : Nat) : Nat := (((keysR R).take i).map fun k => (keysR R).count k).sum
theorem wantT_next (R : List R3) (i : Nat) (h : i < R.length) : wantT R (i + 1) = wantT R i + (keysR R).count (bl R[i].1) := by
  unfold wantT
  have hl : i < (keysR R).length := by unfold keysR; rw [List.length_map]; exact h
  rw [List.take_succ_eq_append_getElem hl, List.map_append, List.sum_append]
  simp [keysR]
theorem wantT_all (R : List R3) : wantT R R.length = pairsOf (keysR R) := by
  unfold wantT pairsOf
  rw [List.take_of_length_le (by unfold keysR; rw [List.length_map]; exact Nat.le_refl _)]
theorem count_next (R : List R3) (k : List UInt8) (j : Nat) (h : j < R.length) : ((keysR R).take (j + 1)).count k = ((keysR R).take j).count k + if bl R[j].1 = k then 1 else 0 := by
  have hl : j < (keysR R).length := by unfold keysR; rw [List.length_map]; exact h
  rw [List.take_succ_eq_append_getElem hl, List.count_append]
  congr 1
  simp [keysR, List.count_singleton]

set_option maxRecDepth 100000 in
set_option maxHeartbeats 6400000 in
theorem joined_law (R : List R3) (hlen : R.length ≤ 9000000000000000) (v : Value) (w : World) (hv : RowsAt w v R) (hmx : MX w) (hsz : ∀ r ∈ R, r.1.size ≤ maxLen ∧ r.2.1.size ≤ maxLen ∧ r.2.2.size ≤ maxLen) :
    Calls Tryz.prog 3 #[v] w fun e w' => e = .returned (.bool true) ∧ Below w.heap.size w w' := by
  have HV := Lib.hid hv
  have HM := Lib.hid hmx
  have HSZ := Lib.hid hsz
  obtain ⟨A, c, rfl, _, h⟩ := hv
  have HH := Lib.hid h
  obtain ⟨n, hn⟩ : ∃ n, R.length = n := ⟨_, rfl⟩
  have HN := Lib.hid hn
  rw [hn] at hlen HV ⊢
  clear h hmx hsz hn
  have eone : (⟨#[44]⟩ : ByteArray).size = 1 := rfl
  have enl : (⟨#[10]⟩ : ByteArray).size = 1 := rfl
  go_enter Tryz.func3, Tryz.ntmps3
  go_wp2_with fail
  refine (landed_any _).mono ?_
  rintro e wl ⟨rfl, hbl⟩
  have HBL := Lib.hid hbl
  clear hbl
  go_wp2_with fail
  go_loopw [3, 27] (fun s3 s27 wr => ∃ k : Nat, k ≤ n ∧ s27 = .int .i64 (k : Int) ∧ (∃ S : ByteArray, s3 = .string S ∧ Hid (S = toB (headT R k)) ∧ Hid (S.size ≤ 154 * k)) ∧ Hid (∀ j (h : j < R.length), j < k → okR R[j]) ∧ Hid (Below w.heap.size w wr)) (fun _ s27 _ => n - (intOf s27).toNat)
  case atStart => exact ⟨0, Nat.zero_le _, rfl, ⟨⟨#[]⟩, rfl, Lib.hid rfl, Lib.hid (Nat.le_refl _)⟩, Lib.hid (fun j _ hj => absurd hj (Nat.not_lt_zero _)), HBL⟩
  case round =>
    obtain ⟨k, hk, rfl, ⟨S, rfl, HS, HSS⟩, HOK, HBR⟩ := hrel
    by_cases hlt : k < n
    · have hltz : (k : Int) < (n : Int) := by omega
      have hk1 : IntKind.i64.wrap ((k : Int) + 1) = ((k + 1 : Nat) : Int) := IntWalk.i64_in _ (by omega)
      have hkR : k < R.length := by rw [HN.out]; exact hlt
      obtain ⟨b, off, rfl, hb, hcell⟩ := HH.out (by omega)
      obtain ⟨c0, c1, c2⟩ := hcell k hkR
      have d0 : wr.cell? ⟨b, off + k * 3, none⟩ = some (.string R[k].1) := (HBR.out.cell (p := ⟨b, off + k * 3, none⟩) hb).trans c0
      have d1 : wr.cell? ⟨b, off + k * 3 + 1, none⟩ = some (.string R[k].2.1) := (HBR.out.cell (p := ⟨b, off + k * 3 + 1, none⟩) hb).trans c1
      have d2 : wr.cell? ⟨b, off + k * 3 + 2, none⟩ = some (.string R[k].2.2) := (HBR.out.cell (p := ⟨b, off + k * 3 + 2, none⟩) hb).trans c2
      have HSK := Lib.hid (HSZ.out R[k] (List.getElem_mem hkR))
      have HNX : Hid (headT R (k + 1) = headT R k ++ (lnL R[k] ++ [10])) := Lib.hid (headT_next R k hkR)
      have HOKN : Hid (okR R[k] → ∀ j (h : j < R.length), j < k + 1 → okR R[j]) := Lib.hid (fun h0 j h hj => by
        by_cases e : j = k
        · subst e; exact h0
        · exact HOK.out j h (by omega))
      obtain ⟨a, ha⟩ : ∃ a, a = R[k].1 := ⟨_, rfl⟩
      obtain ⟨a1, ha1⟩ : ∃ a, a = R[k].2.1 := ⟨_, rfl⟩
      obtain ⟨a2, ha2⟩ : ∃ a, a = R[k].2.2 := ⟨_, rfl⟩
      rw [← ha] at d0
      rw [← ha1] at d1
      rw [← ha2] at d2
      have HRK : Hid (R[k] = (a, a1, a2)) := Lib.hid (by rw [ha, ha1, ha2])
      rw [HRK.out] at HSK HNX HOKN
      clear c0 c1 c2 hcell ha ha1 ha2 HOK HRK
      go_upto_region 7 with fail
      obtain ⟨x, hx⟩ : ∃ x, x = wr.heap.size := ⟨_, rfl⟩
      obtain ⟨W1, hW1⟩ : ∃ z, z = wr.alloc (.cells #[.string a, .string a1, .string a2] 24) := ⟨_, rfl⟩
      have hx1 : W1.heap[x]? = some (.cells #[.string a, .string a1, .string a2] 24 (0, 0)) := by rw [hW1, hx]; exact heap_alloc_new wr _
      have HB1 : Hid (Below w.heap.size w W1) := Lib.hid (by rw [hW1]; exact HBR.out.alloc HBR.out.size _)
      rw [← hx, ← hW1]
      obtain ⟨e0, e1, e2⟩ := three_at hx1
      clear hx hW1 hx1 d0 d1 d2
      have ix0 := fun W => (run_ix3 (.string a) (.string a1) (.string a2) W).1
      have ix1 := fun W => (run_ix3 (.string a) (.string a1) (.string a2) W).2.1
      have ix2 := fun W => (run_ix3 (.string a) (.string a1) (.string a2) W).2.2
      go_wp2_with fail
      go_loopw [3, 32] (fun s3 s32 wr => ∃ m : Nat, m ≤ 3 ∧ s32 = .int .i64 (m : Int) ∧ (∃ S' : ByteArray, s3 = .string S' ∧ Hid (S' = S ++ toB (altT a a1 a2 m)) ∧ Hid (S'.size ≤ S.size + 51 * m)) ∧ Hid ((0 < m → okT a) ∧ (1 < m → okT a1) ∧ (2 < m → okT a2)) ∧ Hid (Below w.heap.size w wr)) (fun _ s32 _ => 3 - (intOf s32).toNat)
      case atStart => exact ⟨0, Nat.zero_le _, rfl, ⟨S, rfl, Lib.hid (by
        apply ByteArray.ext
        simp [ByteArray.data_append, toB, altT]), Lib.hid (Nat.le_refl _)⟩, Lib.hid ⟨fun h => absurd h (by omega), fun h => absurd h (by omega), fun h => absurd h (by omega)⟩, HB1⟩
      case round =>
        obtain ⟨m, hm, rfl, ⟨S', rfl, HS', HSS'⟩, HOM, HBM⟩ := hrel
        have hsb : S'.size ≤ 154 * 9000000000000000 + 153 := by
          have h1 := HSS.out
          have h2 := HSS'.out
          omega
        rcases (by omega : m = 0 ∨ m = 1 ∨ m = 2 ∨ m = 3) with rfl | rfl | rfl | rfl
        · have hsx : ¬ 9223372036854775807 < S'.size + 1 := by omega
          have HCA := Lib.hid (fun W => containsAny_any a W HSK.out.1)
          cases hcl : cleanB a.data.toList with
          | false =>
            rw [hcl] at HCA
            clear hcl
            go_wp2_with fail
            refine (HCA.out _).mono ?_
            rintro e w5 ⟨rfl, hb5⟩
            have HB5 := Lib.hid (HBM.out.trans (hb5.mono HBM.out.size))
            clear hb5
            go_wp2_with fail
            go_ret
            exact ⟨rfl, HB5.out⟩
          | true =>
            rw [hcl] at HCA
            by_cases h50 : 50 < a.size
            · have h50z : (50 : Int) < (a.size : Int) := by omega
              clear hcl
              go_wp2_with fail
              refine (HCA.out _).mono ?_
              rintro e w5 ⟨rfl, hb5⟩
              have HB5 := Lib.hid (HBM.out.trans (hb5.mono HBM.out.size))
              clear hb5
              go_wp2_with fail
              go_ret
              exact ⟨rfl, HB5.out⟩
            · have h50z : ¬ (50 : Int) < (a.size : Int) := by omega
              have HOX : Hid (okT a) := Lib.hid (clean_ok hcl h50)
              have hsy : ¬ 9223372036854775807 < S'.size + a.size := by omega
              have hsz : ¬ 9223372036854775807 < S'.size + 1 + a.size := by omega
              clear hcl
              go_wp2_with fail
              refine (HCA.out _).mono ?_
              rintro e w5 ⟨rfl, hb5⟩
              have HB5 := Lib.hid (HBM.out.trans (hb5.mono HBM.out.size))
              clear hb5
              go_wp2_with fail
              exact ⟨⟨1, by omega, by simp, ⟨_, rfl, Lib.hid (by
                rw [HS'.out]
                apply bl_inj
                simp [bl_toB, altT]), Lib.hid (by
                have h1 := HSS'.out
                simp only [ByteArray.size_append]
                omega)⟩, Lib.hid ⟨fun _ => HOX.out, fun h => absurd h (by omega), fun h => absurd h (by omega)⟩, HB5⟩, by simp [intOf]⟩
        · have hsx : ¬ 9223372036854775807 < S'.size + 1 := by omega
          have HCA := Lib.hid (fun W => containsAny_any a1 W HSK.out.2.1)
          cases hcl : cleanB a1.data.toList with
          | false =>
            rw [hcl] at HCA
            clear hcl
            go_wp2_with fail
            refine (HCA.out _).mono ?_
            rintro e w5 ⟨rfl, hb5⟩
            have HB5 := Lib.hid (HBM.out.trans (hb5.mono HBM.out.size))
            clear hb5
            go_wp2_with fail
            go_ret
            exact ⟨rfl, HB5.out⟩
          | true =>
            rw [hcl] at HCA
            by_cases h50 : 50 < a1.size
            · have h50z : (50 : Int) < (a1.size : Int) := by omega
              clear hcl
              go_wp2_with fail
              refine (HCA.out _).mono ?_
              rintro e w5 ⟨rfl, hb5⟩
              have HB5 := Lib.hid (HBM.out.trans (hb5.mono HBM.out.size))
              clear hb5
              go_wp2_with fail
              go_ret
              exact ⟨rfl, HB5.out⟩
            · have h50z : ¬ (50 : Int) < (a1.size : Int) := by omega
              have HOX : Hid (okT a1) := Lib.hid (clean_ok hcl h50)
              have hsy : ¬ 9223372036854775807 < S'.size + a1.size := by omega
              have hsz : ¬ 9223372036854775807 < S'.size + 1 + a1.size := by omega
              clear hcl
              go_wp2_with fail
              refine (HCA.out _).mono ?_
              rintro e w5 ⟨rfl, hb5⟩
              have HB5 := Lib.hid (HBM.out.trans (hb5.mono HBM.out.size))
              clear hb5
              go_wp2_with fail
              exact ⟨⟨2, by omega, by simp, ⟨_, rfl, Lib.hid (by
                rw [HS'.out]
                apply bl_inj
                simp [bl_toB, altT]), Lib.hid (by
                have h1 := HSS'.out
                simp only [ByteArray.size_append, eone]
                omega)⟩, Lib.hid ⟨fun _ => HOM.out.1 (by omega), fun _ => HOX.out, fun h => absurd h (by omega)⟩, HB5⟩, by simp [intOf]⟩
        · have hsx : ¬ 9223372036854775807 < S'.size + 1 := by omega
          have HCA := Lib.hid (fun W => containsAny_any a2 W HSK.out.2.2)
          cases hcl : cleanB a2.data.toList with
          | false =>
            rw [hcl] at HCA
            clear hcl
            go_wp2_with fail
            refine (HCA.out _).mono ?_
            rintro e w5 ⟨rfl, hb5⟩
            have HB5 := Lib.hid (HBM.out.trans (hb5.mono HBM.out.size))
            clear hb5
            go_wp2_with fail
            go_ret
            exact ⟨rfl, HB5.out⟩
          | true =>
            rw [hcl] at HCA
            by_cases h50 : 50 < a2.size
            · have h50z : (50 : Int) < (a2.size : Int) := by omega
              clear hcl
              go_wp2_with fail
              refine (HCA.out _).mono ?_
              rintro e w5 ⟨rfl, hb5⟩
              have HB5 := Lib.hid (HBM.out.trans (hb5.mono HBM.out.size))
              clear hb5
              go_wp2_with fail
              go_ret
              exact ⟨rfl, HB5.out⟩
            · have h50z : ¬ (50 : Int) < (a2.size : Int) := by omega
              have HOX : Hid (okT a2) := Lib.hid (clean_ok hcl h50)
              have hsy : ¬ 9223372036854775807 < S'.size + a2.size := by omega
              have hsz : ¬ 9223372036854775807 < S'.size + 1 + a2.size := by omega
              clear hcl
              go_wp2_with fail
              refine (HCA.out _).mono ?_
              rintro e w5 ⟨rfl, hb5⟩
              have HB5 := Lib.hid (HBM.out.trans (hb5.mono HBM.out.size))
              clear hb5
              go_wp2_with fail
              exact ⟨⟨3, by omega, by simp, ⟨_, rfl, Lib.hid (by
                rw [HS'.out]
                apply bl_inj
                simp [bl_toB, altT]), Lib.hid (by
                have h1 := HSS'.out
                simp only [ByteArray.size_append, eone]
                omega)⟩, Lib.hid ⟨fun _ => HOM.out.1 (by omega), fun _ => HOM.out.2.1 (by omega), fun _ => HOX.out⟩, HB5⟩, by simp [intOf]⟩
        · have hsn : ¬ 9223372036854775807 < S'.size + 1 := by omega
          have HR : Hid (okR (a, a1, a2)) := Lib.hid ⟨HOM.out.1 (by omega), HOM.out.2.1 (by omega), HOM.out.2.2 (by omega)⟩
          go_wp2_with fail
          exact ⟨⟨k + 1, by omega, by simp, ⟨_, rfl, Lib.hid (by
            rw [HS'.out, HS.out, HNX.out, toB_append, show (⟨#[10]⟩ : ByteArray) = toB [10] from rfl, toB_append, List.append_assoc, lnL_eq]
            rfl), Lib.hid (by
            rw [ByteArray.size_append, enl]
            have h1 := HSS.out
            have h2 := HSS'.out
            omega)⟩, Lib.hid (HOKN.out HR.out), HBM⟩, by simp [intOf]; omega⟩
    · obtain rfl : k = n := by omega
      by_cases h100 : 100 < k
      · have h100z : (100 : Int) < (k : Int) := by omega
        go_wp2_with fail
        go_ret
        exact ⟨rfl, HBR.out⟩
      · have h100z : ¬ (100 : Int) < (k : Int) := by omega
        have HRO : Hid (∀ r ∈ R, okR r) := Lib.hid (fun r hr => by
          obtain ⟨j, hj, rfl⟩ := List.mem_iff_getElem.1 hr
          exact HOK.out j hj (by rw [← HN.out]; exact hj))
        have HSR : Hid (S = toB (txtL (R.map lnL))) := Lib.hid (by
          rw [HS.out]
          unfold headT
          rw [← HN.out, List.take_length])
        have hR100 : R.length ≤ 100 := by rw [HN.out]; omega
        have HCU := Lib.hid (fun i rb W h1 h2 (h : Below w.heap.size w W) (hr : RngAt W rb i) => cut_any rb i R HRO.out hR100 W (HM.out.keep h) hr h1 h2)
        rw [← HSR.out] at HCU
        have HPS := Lib.hid (fun v W (h : Below w.heap.size w W) hv => paste_any R HRO.out hR100 v W (HM.out.keep h) hv)
        rw [← HSR.out] at HPS
        have HSO := Lib.hid (fun kb W (h : Below w.heap.size w W) hk => sorts_any kb R HRO.out hR100 W (HM.out.keep h) hk)
        rw [← HSR.out] at HSO
        have HJO := Lib.hid (fun Q (hp : Q.Perm R) hu W (h : Below w.heap.size w W) => join_text Q (fun r hr => HRO.out r (hp.subset hr)) (by rw [hp.length_eq]; exact hR100) hu W (HM.out.keep h))
        obtain ⟨wq, hwq⟩ : ∃ z, z = wr := ⟨_, rfl⟩
        subst hwq
        clear HS HSS HOK
        go_wp2_with fail
        go_loopw [8, 57] (fun s8 s57 wr => ∃ m : Nat, m ≤ 3 ∧ s57 = .int .i64 (m : Int) ∧ Hid (OwnL wq.heap.size s8 ([colT R 1, colT R 2, colT R 3].take m) wr) ∧ Hid (Below wq.heap.size wq wr)) (fun _ s57 _ => 3 - (intOf s57).toNat)
        case atStart => exact ⟨0, Nat.zero_le _, rfl, Lib.hid (OwnL.nil _ _), Lib.hid (Below.refl _ _)⟩
        case round =>
          obtain ⟨m, hm, rfl, HO, HBM⟩ := hrel
          by_cases hm3 : m < 3
          · have hm3z : (m : Int) < 3 := by omega
            have hm1 : IntKind.i64.wrap ((m : Int) + 1) = ((m + 1 : Nat) : Int) := IntWalk.i64_in _ (by omega)
            have HTK : Hid ([colT R 1, colT R 2, colT R 3].take (m + 1) = [colT R 1, colT R 2, colT R 3].take m ++ [colT R (m + 1)]) := Lib.hid (by
              rcases (by omega : m = 0 ∨ m = 1 ∨ m = 2) with rfl | rfl | rfl <;> rfl)
            obtain ⟨AO, cO, e8⟩ := HO.out.form
            have hlq : ([colT R 1, colT R 2, colT R 3].take m).length = m := by rw [List.length_take]; simp; omega
            rw [hlq] at e8
            have HLQ := Lib.hid hlq
            obtain ⟨LO, hLO⟩ : ∃ LO, LO = [colT R 1, colT R 2, colT R 3].take m := ⟨_, rfl⟩
            rw [← hLO] at HO HTK HLQ
            subst e8
            clear hlq hLO
            obtain ⟨rb, hrb⟩ : ∃ rb, rb = wr.heap.size := ⟨_, rfl⟩
            obtain ⟨W2, hW2⟩ : ∃ z, z = wr.alloc (.cells #[.int .i64 ((m + 1 : Nat) : Int), .int .i64 ((m + 1 : Nat) : Int)] 30) := ⟨_, rfl⟩
            have HRB : Hid (RngAt W2 rb (m + 1)) := Lib.hid (by rw [hW2, hrb]; exact heap_alloc_new wr _)
            have HB2 : Hid (Below wr.heap.size wr W2) := Lib.hid (by rw [hW2]; exact (Below.refl _ wr).alloc (Nat.le_refl _) _)
            have HBW2 : Hid (Below w.heap.size w W2) := Lib.hid (HBR.out.trans ((HBM.out.trans (HB2.out.mono HBM.out.size)).mono HBR.out.size))
            have HC := Lib.hid (HCU.out (m + 1) rb W2 (by omega) (by omega) HBW2.out HRB.out)
            have HCT : Hid (toB (txtL (R.map fun r => bl (fldR r (m + 1)))) = colT R (m + 1)) := Lib.hid rfl
            rw [HCT.out] at HC
            obtain ⟨y, hy⟩ : ∃ y, y = colT R (m + 1) := ⟨_, rfl⟩
            rw [← hy] at HC HTK
            rw [hrb, hW2] at HC
            have HO2 := Lib.hid (HO.out.keep HB2.out)
            have HBM2 := Lib.hid (HBM.out.trans (HB2.out.mono HBM.out.size))
            have HWE := Lib.hid hW2
            clear hrb hW2 HCT hy
            go_wp2_with fail
            refine HC.out.mono ?_
            rw [← HWE.out]
            rintro e w3 ⟨rfl, hb3⟩
            have HO3 := Lib.hid (HO2.out.keep hb3)
            have HBM3 := Lib.hid (HBM2.out.trans (hb3.mono HBM2.out.size))
            clear hb3 HC HWE
            go_wp2_with (at_builtin; refine app_one rfl _ _ rfl wq.heap.size _ LO HO3.out rfl y rfl (by have := HLQ.out; omega) HBM3.out.size ?_)
            intro A4 c4 w4 ho4 hb4 _
            rw [HLQ.out]
            rw [HLQ.out] at ho4
            have HW4 := Lib.hid ho4
            have HB4 := Lib.hid (HBM3.out.trans hb4)
            clear ho4 hb4
            go_wp2_with fail
            exact ⟨⟨m + 1, by omega, by simp, Lib.hid (by rw [HTK.out]; exact HW4.out), HB4⟩, by simp [intOf]; omega⟩
          · obtain rfl : m = 3 := by omega
            have HBA : Hid (Below w.heap.size w wr) := Lib.hid (HBR.out.trans (HBM.out.mono HBR.out.size))
            have HP := Lib.hid (HPS.out u8 wr HBA.out HO.out.sl)
            obtain ⟨AO, cO, e8⟩ := HO.out.form
            subst e8
            clear HPS HCU HO
            go_wp2_with fail
            refine HP.out.mono ?_
            rintro e w3 ⟨rfl, hb3⟩
            have HB3 := Lib.hid (HBA.out.trans (hb3.mono HBA.out.size))
            clear hb3 HP
            obtain ⟨kb, hkb⟩ : ∃ kb, kb = w3.heap.size := ⟨_, rfl⟩
            obtain ⟨W5, hW5⟩ : ∃ z, z = w3.alloc (.cells keyCells 37) := ⟨_, rfl⟩
            have HKB : Hid (KeyAt W5 kb) := Lib.hid (by rw [hW5, hkb]; exact heap_alloc_new w3 _)
            have HB5 : Hid (Below w.heap.size w W5) := Lib.hid (by rw [hW5]; exact HB3.out.alloc HB3.out.size _)
            have HS5 := Lib.hid (HSO.out kb W5 HB5.out HKB.out)
            rw [hkb, hW5] at HS5
            have HWE := Lib.hid hW5
            clear hkb hW5
            unfold keyCells at HS5
            go_wp2_with fail
            refine HS5.out.mono ?_
            rintro e w6 ⟨Q, rfl, hq1, hq2, hb6⟩
            have HQ := Lib.hid (And.intro hq1 hq2)
            have HB6 : Hid (Below w.heap.size w w6) := Lib.hid (by
              have h5 := HB5.out
              rw [HWE.out] at h5
              exact h5.trans (hb6.mono h5.size))
            have HJ := Lib.hid (HJO.out Q hq1 hq2 w6 HB6.out)
            clear hq1 hq2 hb6 HS5 HWE HSO HJO
            generalize toB (txtL (Q.map lnL)) = TQ at *
            go_wp2_with fail
            refine HJ.out.mono ?_
            rintro e w7 ⟨J, rfl, hjc, hb7⟩
            have HB7 := Lib.hid (HB6.out.trans (hb7.mono HB6.out.size))
            have HJC : Hid ((bl J).count 10 = pairsOf (keysR R)) := Lib.hid (by
              rw [hjc]
              exact pairs_perm (HQ.out.1.map _))
            have HCO := Lib.hid (fun W => Tryz.strings_Count_one J 10 W)
            have hcb : Lib.countByte J.data.toList 10 = pairsOf (keysR R) := HJC.out
            rw [hcb] at HCO
            have HPB : Hid (pairsOf (keysR R) ≤ 10000) := Lib.hid (Nat.le_trans (pairs_le _) (by unfold keysR; rw [List.length_map]; exact Nat.mul_le_mul hR100 hR100))
            obtain ⟨PN, hPN⟩ : ∃ PN, PN = pairsOf (keysR R) := ⟨_, rfl⟩
            rw [← hPN] at HCO HPB
            have HPN := Lib.hid hPN
            have hkn : R.length = k := HN.out
            clear hjc hb7 HJ hcb HJC hPN
            go_wp2_with fail
            go_loopw [18, 112] (fun s18 s112 wr => ∃ i : Nat, i ≤ k ∧ s112 = .int .i64 (i : Int) ∧ (∃ z : Nat, s18 = .int .i64 (z : Int) ∧ Hid (z = wantT R i)) ∧ Hid (Below w.heap.size w wr)) (fun _ s112 _ => k - (intOf s112).toNat)
            case atStart => exact ⟨0, Nat.zero_le _, rfl, ⟨0, rfl, Lib.hid rfl⟩, HB7⟩
            case round =>
              obtain ⟨i, hi, rfl, ⟨z, rfl, HZ⟩, HBI⟩ := hrel
              by_cases hik : i < k
              · have hikz : (i : Int) < (k : Int) := by omega
                have hi1 : IntKind.i64.wrap ((i : Int) + 1) = ((i + 1 : Nat) : Int) := IntWalk.i64_in _ (by omega)
                have hiR : i < R.length := by omega
                obtain ⟨b, off, hAe, hb, hcell⟩ := HH.out (by omega)
                subst hAe
                obtain ⟨c0, c1, c2⟩ := hcell i hiR
                have d0 : wr.cell? ⟨b, off + i * 3, none⟩ = some (.string R[i].1) := (HBI.out.cell (p := ⟨b, off + i * 3, none⟩) hb).trans c0
                have d1 : wr.cell? ⟨b, off + i * 3 + 1, none⟩ = some (.string R[i].2.1) := (HBI.out.cell (p := ⟨b, off + i * 3 + 1, none⟩) hb).trans c1
                have d2 : wr.cell? ⟨b, off + i * 3 + 2, none⟩ = some (.string R[i].2.2) := (HBI.out.cell (p := ⟨b, off + i * 3 + 2, none⟩) hb).trans c2
                have HWN : Hid (wantT R (i + 1) = wantT R i + (keysR R).count (bl R[i].1)) := Lib.hid (wantT_next R i hiR)
                have HWZ : Hid (z ≤ 100 * 100) := Lib.hid (by
                  rw [HZ.out]
                  unfold wantT
                  have h1 : ∀ (M : List (List UInt8)), (M.map fun k => (keysR R).count k).sum ≤ M.length * (keysR R).length := fun M => by
                    induction M with
                    | nil => simp
                    | cons x t ih =>
                      rw [List.map_cons, List.sum_cons, List.length_cons, Nat.succ_mul]
                      have := List.count_le_length (a := x) (l := keysR R)
                      omega
                  refine Nat.le_trans (h1 _) (Nat.mul_le_mul (by rw [List.length_take]; omega) (by unfold keysR; rw [List.length_map]; exact hR100)))
                obtain ⟨a, ha⟩ : ∃ a, a = R[i].1 := ⟨_, rfl⟩
                rw [← ha] at d0 HWN
                generalize R[i].2.1 = a1 at *
                generalize R[i].2.2 = a2 at *
                clear c0 c1 c2 ha
                go_upto_region 40 with fail
                obtain ⟨x, hx⟩ : ∃ x, x = wr.heap.size := ⟨_, rfl⟩
                obtain ⟨W8, hW8⟩ : ∃ z, z = wr.alloc (.cells #[.string a, .string a1, .string a2] 24) := ⟨_, rfl⟩
                have hx8 : W8.heap[x]? = some (.cells #[.string a, .string a1, .string a2] 24 (0, 0)) := by rw [hW8, hx]; exact heap_alloc_new wr _
                have HB8 : Hid (Below w.heap.size w W8) := Lib.hid (by rw [hW8]; exact HBI.out.alloc HBI.out.size _)
                have HX8 : Hid (x < W8.heap.size) := Lib.hid (Array.getElem?_eq_some_iff.1 hx8).1
                have HXC := Lib.hid (three_at hx8).1
                rw [← hx, ← hW8]
                clear hx hW8 hx8 d0 d1 d2
                go_wp2_with fail
                go_loopw [18, 118] (fun s18 s118 wr => ∃ j : Nat, j ≤ k ∧ s118 = .int .i64 (j : Int) ∧ (∃ y : Nat, s18 = .int .i64 (y : Int) ∧ Hid (y = z + ((keysR R).take j).count (bl a)) ∧ Hid (y ≤ z + j)) ∧ Hid (Below W8.heap.size W8 wr)) (fun _ s118 _ => k - (intOf s118).toNat)
                case atStart => exact ⟨0, Nat.zero_le _, rfl, ⟨z, rfl, Lib.hid (by simp), Lib.hid (Nat.le_refl _)⟩, Lib.hid (Below.refl _ _)⟩
                case round =>
                  obtain ⟨j, hj, rfl, ⟨y, rfl, HY, HYZ⟩, HBJ⟩ := hrel
                  by_cases hjk : j < k
                  · have hjkz : (j : Int) < (k : Int) := by omega
                    have hj1 : IntKind.i64.wrap ((j : Int) + 1) = ((j + 1 : Nat) : Int) := IntWalk.i64_in _ (by omega)
                    have hjR : j < R.length := by omega
                    have hy1 : IntKind.i64.wrap ((y : Int) + 1) = ((y + 1 : Nat) : Int) := IntWalk.i64_in _ (by have := HYZ.out; have := HWZ.out; omega)
                    obtain ⟨c0, c1, c2⟩ := hcell j hjR
                    have hbw : Below w.heap.size w wr := HB8.out.trans (HBJ.out.mono HB8.out.size)
                    have d0 : wr.cell? ⟨b, off + j * 3, none⟩ = some (.string R[j].1) := (hbw.cell (p := ⟨b, off + j * 3, none⟩) hb).trans c0
                    have d1 : wr.cell? ⟨b, off + j * 3 + 1, none⟩ = some (.string R[j].2.1) := (hbw.cell (p := ⟨b, off + j * 3 + 1, none⟩) hb).trans c1
                    have d2 : wr.cell? ⟨b, off + j * 3 + 2, none⟩ = some (.string R[j].2.2) := (hbw.cell (p := ⟨b, off + j * 3 + 2, none⟩) hb).trans c2
                    have HCN : Hid (((keysR R).take (j + 1)).count (bl a) = ((keysR R).take j).count (bl a) + if bl R[j].1 = bl a then 1 else 0) := Lib.hid (count_next R (bl a) j hjR)
                    obtain ⟨g, hg⟩ : ∃ g, g = R[j].1 := ⟨_, rfl⟩
                    rw [← hg] at d0 HCN
                    generalize R[j].2.1 = g1 at *
                    generalize R[j].2.2 = g2 at *
                    clear c0 c1 c2 hg hbw
                    go_upto_region 43 with fail
                    obtain ⟨x2, hx2⟩ : ∃ x, x = wr.heap.size := ⟨_, rfl⟩
                    obtain ⟨W9, hW9⟩ : ∃ z, z = wr.alloc (.cells #[.string g, .string g1, .string g2] 24) := ⟨_, rfl⟩
                    have hx9 : W9.heap[x2]? = some (.cells #[.string g, .string g1, .string g2] 24 (0, 0)) := by rw [hW9, hx2]; exact heap_alloc_new wr _
                    have HB9 : Hid (Below W8.heap.size W8 W9) := Lib.hid (by rw [hW9]; exact HBJ.out.alloc HBJ.out.size _)
                    have f0 : W9.cell? ⟨x2, 0, none⟩ = some (.string g) := (three_at hx9).1
                    have f1 : W9.cell? ⟨x, 0, none⟩ = some (.string a) := (HB9.out.cell (p := ⟨x, 0, none⟩) HX8.out).trans HXC.out
                    rw [← hx2, ← hW9]
                    clear hx2 hW9 hx9 d0 d1 d2
                    by_cases hag : a = g
                    · subst hag
                      have HC1 : Hid (y + 1 = z + ((keysR R).take (j + 1)).count (bl a)) := Lib.hid (by rw [HCN.out, if_pos rfl, HY.out]; omega)
                      go_wp2_with fail
                      exact ⟨⟨j + 1, by omega, by simp, ⟨y + 1, by simp, HC1, Lib.hid (by have := HYZ.out; omega)⟩, HB9⟩, by simp [intOf]; omega⟩
                    · have hagb := toList_ne hag
                      have HC1 : Hid (y = z + ((keysR R).take (j + 1)).count (bl a)) := Lib.hid (by rw [HCN.out, if_neg (fun e => hag (bl_inj e.symm)), HY.out]; omega)
                      clear hag
                      go_wp2_with fail
                      exact ⟨⟨j + 1, by omega, by simp, ⟨y, rfl, HC1, Lib.hid (by have := HYZ.out; omega)⟩, HB9⟩, by simp [intOf]; omega⟩
                  · obtain rfl : j = k := by omega
                    have HF : Hid (y = wantT R (i + 1)) := Lib.hid (by
                      rw [HWN.out, ← HZ.out, HY.out, ← hkn, List.take_of_length_le (by unfold keysR; rw [List.length_map]; exact Nat.le_refl _)])
                    have HBF : Hid (Below w.heap.size w wr) := Lib.hid (HB8.out.trans (HBJ.out.mono HB8.out.size))
                    go_wp2_with fail
                    exact ⟨⟨i + 1, by omega, by simp, ⟨y, rfl, HF⟩, HBF⟩, by simp [intOf]; omega⟩
              · obtain rfl : i = k := by omega
                have hzp : z = PN := by rw [HZ.out, HPN.out, ← hkn]; exact wantT_all R
                subst hzp
                go_wp2_with fail
                refine (HCO.out _).mono ?_
                rintro e w9 ⟨rfl, hw9⟩
                subst hw9
                go_wp2_with fail
                go_ret
                exact ⟨rfl, HBI.out⟩
end Go.Proofs.YtppnhdcnjbjibaaGreatDoor
