/- Arithmetic expressions: the meter: how deep an expression is. -/
import Derived.Test.YtiigclkebnmopaaGreatDoorArVar
namespace Go.Proofs.YtiigclkebnmopaaGreatDoor
open Go.RowKit Go.Shelf

/-- the meter in its box has counted n parts -/
def Mt (w : World) (b n : Nat) : Prop := w.heap[b]? = some (.cells #[.int .i64 0, .int .i64 (n : Int)] 62 (0, 0))
theorem Mt.lt {w : World} {b n : Nat} (h : Mt w b n) : b < w.heap.size := (Array.getElem?_eq_some_iff.1 h).1
theorem Mt.cells {w : World} {b n : Nat} (h : Mt w b n) : w.cell? ⟨b, 1, none⟩ = some (.int .i64 (n : Int)) ∧ ∀ i, w.frozen? ⟨b, i, none⟩ = false := by
  unfold Mt at h
  refine ⟨?_, ?_⟩
  all_goals first | simp [World.cell?, h] | simp [World.frozen?, h]
theorem Mt.set {w : World} {b n : Nat} (h : Mt w b n) (m : Nat) : Mt (w.setCell ⟨b, 1, none⟩ (.int .i64 (m : Int))) b m := by
  unfold Mt at h ⊢
  rw [heap_setCell_same _ _ _ _ _ _ h]
  rfl
theorem Mt.below {w w' : World} {b n : Nat} (h : Mt w b n) (hb : Below w.heap.size w w') : Mt w' b n := (hb.block b h.lt).trans h
/-- too deep -/
def codeD (d k : Nat) : Int := if 51 < d + k then 12 else 0
def MG (b d n k s : Nat) (w : World) (e : Ending) (w' : World) : Prop := e = .returned (.int .i64 (codeD d k)) ∧ (∃ n', n' ≤ n + s ∧ Mt w' b n') ∧ Only b w w'
set_option maxRecDepth 100000 in
set_option maxHeartbeats 1600000 in
theorem part_any (b d n : Nat) (w : World) (h : Mt w b n) (hn : n < 1048576) (hd : d ≤ 60) :
    Calls Tryz.prog 59 #[.pointer (some ⟨b, 0, none⟩), .int .i64 (d : Int)] w fun e w' => e = .returned (.int .i64 (if 50 < d then 12 else 0)) ∧ Mt w' b (n + 1) ∧ Only b w w' := by
  obtain ⟨c1, cf⟩ := h.cells
  have HF := Lib.hid (h.set (n + 1))
  have HO := Lib.hid ((Only.refl b w).setCell (i := 1) (.int .i64 ((n + 1 : Nat) : Int)))
  have e1 : IntKind.i64.wrap ((n : Int) + 1) = (n : Int) + 1 := IntWalk.i64_in _ (by omega)
  rw [show ((n + 1 : Nat) : Int) = (n : Int) + 1 by simp] at HF HO
  have hm1 : ¬ (1048576 : Int) < (n : Int) + 1 := by omega
  by_cases h50 : 50 < d
  · have hd1 : (50 : Int) < (d : Int) := by omega
    go_enter Tryz.func59, Tryz.ntmps59
    go_wp2_with fail
    go_ret
    exact ⟨rfl, HF.out, HO.out⟩
  · have hd1 : ¬ (50 : Int) < (d : Int) := by omega
    go_enter Tryz.func59, Tryz.ntmps59
    go_wp2_with fail
    go_ret
    exact ⟨rfl, HF.out, HO.out⟩
theorem exl_at {P : Nat → Prop} {w : World} {g : Nat} : ∀ {l : List Ex} {off k : Nat}, ExL P w g off l → ExL P w g (off + 4 * k) (l.drop k)
  | l, off, 0, h => by simpa using h
  | [], off, k + 1, h => by rw [List.drop_nil]; unfold ExL; trivial
  | x :: l, off, k + 1, h => by
    unfold ExL at h
    have := exl_at (k := k) h.2
    rw [List.drop_succ_cons]
    rwa [show off + 4 * (k + 1) = off + 4 + 4 * k by omega]
theorem depths_cons (x : Ex) (l : List Ex) : Ex.depths (x :: l) = max x.depth (Ex.depths l) := by simp [Ex.depths]
theorem sizes_cons (x : Ex) (l : List Ex) : Ex.sizes (x :: l) = x.size + Ex.sizes l := by simp [Ex.sizes]
set_option maxRecDepth 100000 in
set_option maxHeartbeats 3200000 in
theorem every_any (b d n c : Nat) (A : Option Addr) (P : Nat → Prop) (hP : ¬ P b) (l : List Ex) (w : World) (hA : 0 < l.length → ∃ g off, A = some ⟨g, off, none⟩ ∧ P g ∧ g < w.heap.size ∧ ExL P w g off l) (hm : Mt w b n) (hs : n + Ex.sizes l ≤ 1048576) (hl : l.length ≤ 1048576) (hd : d ≤ 51)
    (IH : ∀ y ∈ l, ∀ (v : Value) (n : Nat) (W : World), ExV P W v y → Mt W b n → n + y.size ≤ 1048576 → Calls Tryz.prog 24 #[.pointer (some ⟨b, 0, none⟩), v, .int .i64 (d : Int)] W (MG b d n y.depth y.size W)) :
    Calls Tryz.prog 60 #[.slice A l.length c, .int .i64 (d : Int), .func (.func 24) #[.pointer (some ⟨b, 0, none⟩)] #[]] w (MG b d n (Ex.depths l) (Ex.sizes l) w) := by
  obtain ⟨Q, hQ⟩ : ∃ Q, MG b d n (Ex.depths l) (Ex.sizes l) w = Q := ⟨_, rfl⟩
  rw [hQ]
  have HQ := Lib.hid hQ
  have HM := Lib.hid hm
  have HI := Lib.hid IH
  have HA := Lib.hid hA
  clear hQ hm IH hA
  go_enter Tryz.func60, Tryz.ntmps60
  go_wp2_with fail
  go_loopw [12] (fun s12 wr => ∃ (k n1 : Nat), s12 = .int .i64 (k : Int) ∧ k ≤ l.length ∧ n1 + Ex.sizes (l.drop k) ≤ n + Ex.sizes l ∧ Hid (Mt wr b n1) ∧ Hid (0 < l.length → ∃ g off, A = some ⟨g, off, none⟩ ∧ P g ∧ g < wr.heap.size ∧ ExL P wr g off l) ∧ Hid (codeD d (Ex.depths l) = codeD d (Ex.depths (l.drop k))) ∧ Hid (Only b w wr)) (fun s12 _ => l.length - (intOf s12).toNat)
  case atStart => exact ⟨0, n, rfl, Nat.zero_le _, by simp, HM, HA, Lib.hid rfl, Lib.hid (Only.refl b w)⟩
  case round =>
    clear HM HA
    obtain ⟨k, n1, rfl, hk, hs1, HM, HA, HD, HO⟩ := hrel
    by_cases hlt : k < l.length
    · obtain ⟨g, off, rfl, hPg, hg, hL⟩ := HA.out (by omega)
      have hdr : l.drop k = l[k] :: l.drop (k + 1) := List.drop_eq_getElem_cons hlt
      have hLk := exl_at (k := k) hL
      have hmem := List.getElem_mem hlt
      rw [hdr] at hLk HD
      rw [hdr, sizes_cons] at hs1
      unfold ExL at hLk
      obtain ⟨⟨v0, v1, v2, v3, k0, k1, k2, k3, hx⟩, hrest⟩ := hLk
      generalize l[k] = y at *
      rw [show off + 4 * k = off + k * 4 by omega] at k0 k1 k2 k3
      obtain ⟨nn, A5, k5, c5, nm, hv, hnm⟩ := hx.form
      clear hnm
      simp only [Value.agg.injEq, Array.mk.injEq, List.cons.injEq, and_true] at hv
      obtain ⟨rfl, rfl, rfl, rfl⟩ := hv
      have ba := (Below.refl wr.heap.size wr).alloc (Nat.le_refl _) (.cells #[.string (toB y.op), .int .i64 (nn : Int), .string (toB nm), .slice A5 k5 c5] 25)
      have HM2 := Lib.hid (HM.out.below ba)
      have HX := Lib.hid (hx.below ba)
      have HO2 := Lib.hid (HO.out.trans (Only.of (b := b) ba (Nat.le_refl _)))
      have HL2 := Lib.hid (ExL.keep (P := P) (Q := P) ba.size (fun g hP hg => ⟨ba.block g hg, hP⟩) (ba.block g hg) l hL)
      have hg2 : g < (wr.alloc (.cells #[.string (toB y.op), .int .i64 (nn : Int), .string (toB nm), .slice A5 k5 c5] 25)).heap.size := Nat.lt_of_lt_of_le hg ba.size
      have HI2 := Lib.hid (fun n W => HI.out y hmem (.agg #[.string (toB y.op), .int .i64 (nn : Int), .string (toB nm), .slice A5 k5 c5]) n W)
      have hgb : g ≠ b := fun e => hP (e ▸ hPg)
      clear hdr hrest hx hL ba hmem
      go_wp2_with fail
      generalize wr.alloc (.cells #[.string (toB y.op), .int .i64 (nn : Int), .string (toB nm), .slice A5 k5 c5] 25) = w2 at *
      clear k0 k1 k2 k3
      refine (HI2.out n1 w2 HX.out HM2.out (by omega)).mono ?_
      rintro e w3 ⟨rfl, ⟨n3, hn3, hm3⟩, ho3⟩
      have HO3 := Lib.hid (HO2.out.trans ho3)
      have HM3 := Lib.hid hm3
      have HL3 := Lib.hid (show 0 < l.length → ∃ g' off', some (⟨g, off, none⟩ : Addr) = some ⟨g', off', none⟩ ∧ P g' ∧ g' < w3.heap.size ∧ ExL P w3 g' off' l from fun _ => ⟨g, off, rfl, hPg, Nat.lt_of_lt_of_le hg2 ho3.size, ExL.keep (P := P) (Q := P) ho3.size (fun g hP' hg => ⟨ho3.block g hg (fun e => hP (e ▸ hP')), hP'⟩) (ho3.block g hg2 hgb) l HL2.out⟩)
      clear ho3 hm3
      by_cases hdp : 51 < d + y.depth
      · have HF := Lib.hid (show codeD d (Ex.depths l) = 12 by rw [HD.out, depths_cons]; unfold codeD; rw [if_pos (by omega)])
        rw [show codeD d y.depth = 12 by unfold codeD; rw [if_pos hdp]]
        go_wp2_with fail
        rw [← HQ.out]
        exact ⟨by rw [HF.out]; rfl, ⟨n3, by omega, HM3.out⟩, HO3.out⟩
      · have HF := Lib.hid (show codeD d (Ex.depths l) = codeD d (Ex.depths (l.drop (k + 1))) by
          rw [HD.out, depths_cons]
          unfold codeD
          by_cases h2 : 51 < d + Ex.depths (l.drop (k + 1))
          · rw [if_pos h2, if_pos (by omega)]
          · rw [if_neg h2, if_neg (by omega)])
        rw [show codeD d y.depth = 0 by unfold codeD; rw [if_neg hdp]]
        go_wp2_with fail
        exact ⟨⟨k + 1, n3, by go_num, by omega, by omega, HM3, HL3, HF, HO3⟩, by simp [intOf]; omega⟩
    · obtain rfl : k = l.length := by omega
      have HF := Lib.hid (show codeD d (Ex.depths l) = 0 by
        rw [HD.out, List.drop_length]
        unfold codeD
        rw [if_neg (by rw [show Ex.depths [] = 0 by simp [Ex.depths]]; omega)])
      rw [List.drop_length] at hs1
      go_wp2_with fail
      rw [← HQ.out]
      exact ⟨by rw [HF.out]; rfl, ⟨n1, by simp [Ex.sizes] at hs1; omega, HM.out⟩, HO.out⟩
set_option maxRecDepth 100000 in
set_option maxHeartbeats 3200000 in
theorem mexpr_step (b d n : Nat) (P : Nat → Prop) (hP : ¬ P b) (op nm : List UInt8) (nn : Int) (l : List Ex) (v : Value) (w : World) (hx : ExV P w v (.mk op nn nm l)) (hm : Mt w b n) (hs : n + (Ex.mk op nn nm l).size ≤ 1048576) (hd : d ≤ 51) (hd1 : 1 ≤ d) (hl : l.length ≤ 1048576)
    (IH : d ≤ 50 → ∀ y ∈ l, ∀ (v : Value) (n : Nat) (W : World), ExV P W v y → Mt W b n → n + y.size ≤ 1048576 → Calls Tryz.prog 24 #[.pointer (some ⟨b, 0, none⟩), v, .int .i64 ((d + 1 : Nat) : Int)] W (MG b (d + 1) n y.depth y.size W)) :
    Calls Tryz.prog 24 #[.pointer (some ⟨b, 0, none⟩), v, .int .i64 (d : Int)] w (MG b d n (Ex.mk op nn nm l).depth (Ex.mk op nn nm l).size w) := by
  obtain ⟨A, c, rfl, hc, hA⟩ : ∃ A c, v = .agg #[.string (toB op), .int .i64 (nn : Int), .string (toB nm), .slice A l.length c] ∧ l.length ≤ c ∧ (0 < l.length → ∃ g off, A = some ⟨g, off, none⟩ ∧ P g ∧ g < w.heap.size ∧ ExL P w g off l) := by
    unfold ExV at hx
    exact hx
  have hmf : ∀ (fn : Fn) (first cap : Array Value) (w : World), (Instr.makeFunc fn first cap).run Tryz.prog w = .ok (.func fn first cap) w := fun _ _ _ _ => rfl
  have ba := (Below.refl w.heap.size w).alloc (Nat.le_refl _) (.cells #[.string (toB op), .int .i64 (nn : Int), .string (toB nm), .slice A l.length c] 25)
  have HB := Lib.hid ba
  have HM := Lib.hid (hm.below ba)
  have F := Lib.hid (Four.new w (.string (toB op)) (.int .i64 (nn : Int)) (.string (toB nm)) (.slice A l.length c))
  have hbl := hm.lt
  have hsz : (Ex.mk op nn nm l).size = Ex.sizes l + 1 := by simp [Ex.size]
  have hdp : (Ex.mk op nn nm l).depth = Ex.depths l + 1 := by simp [Ex.depth]
  rw [hsz] at hs ⊢
  rw [hdp]
  obtain ⟨Q, hQ⟩ : ∃ Q, MG b d n (Ex.depths l + 1) (Ex.sizes l + 1) w = Q := ⟨_, rfl⟩
  rw [hQ]
  have HQ := Lib.hid hQ
  have HA := Lib.hid (show 0 < l.length → ∃ g off, A = some ⟨g, off, none⟩ ∧ P g ∧ g < (w.alloc (.cells #[.string (toB op), .int .i64 (nn : Int), .string (toB nm), .slice A l.length c] 25)).heap.size ∧ ExL P (w.alloc (.cells #[.string (toB op), .int .i64 (nn : Int), .string (toB nm), .slice A l.length c] 25)) g off l from fun h => by
    obtain ⟨g, off, h1, h2, h3, h4⟩ := hA h
    exact ⟨g, off, h1, h2, Nat.lt_of_lt_of_le h3 ba.size, ExL.keep (P := P) (Q := P) ba.size (fun g hP hg => ⟨ba.block g hg, hP⟩) (ba.block g h3) l h4⟩)
  have HI := Lib.hid IH
  clear hQ hm hA IH hx ba hsz hdp
  go_enter Tryz.func24, Tryz.ntmps24
  go_wp2_with fail
  have hxb : w.heap.size ≠ b := by omega
  generalize w.alloc (.cells #[.string (toB op), .int .i64 (nn : Int), .string (toB nm), .slice A l.length c] 25) = w1 at *
  generalize hbx : w.heap.size = bx at *
  refine (part_any b d n w1 HM.out (by omega) (by omega)).mono ?_
  rintro e w2 ⟨rfl, hm2, ho2⟩
  have HM2 := Lib.hid hm2
  have HO2 := Lib.hid ho2
  have F2 := Lib.hid (F.out.only ho2 hxb)
  have HA2 := Lib.hid (show 0 < l.length → ∃ g off, A = some ⟨g, off, none⟩ ∧ P g ∧ g < w2.heap.size ∧ ExL P w2 g off l from fun h => by
    obtain ⟨g, off, h1, h2, h3, h4⟩ := HA.out h
    exact ⟨g, off, h1, h2, Nat.lt_of_lt_of_le h3 ho2.size, ExL.keep (P := P) (Q := P) ho2.size (fun g hP' hg => ⟨ho2.block g hg (fun e => hP (e ▸ hP')), hP'⟩) (ho2.block g h3 (fun e => hP (e ▸ h2))) l h4⟩)
  clear hm2 ho2
  by_cases h50 : 50 < d
  · rw [if_pos h50]
    go_wp2_with fail
    rw [← HQ.out]
    refine ⟨?_, ⟨n + 1, by omega, HM2.out⟩, (Only.of HB.out (Nat.le_of_eq hbx)).trans HO2.out⟩
    unfold codeD
    rw [if_pos (by omega)]
    rfl
  · rw [if_neg h50]
    obtain ⟨c0, c1, c2, c3, cf⟩ := F2.out.cells
    have e1 : IntKind.i64.wrap ((d : Int) + 1) = (d : Int) + 1 := IntWalk.i64_in _ (by omega)
    have HE := Lib.hid (every_any b (d + 1) (n + 1) c A P hP l w2 HA2.out HM2.out (by omega) hl (by omega) (HI.out (by omega)))
    rw [show ((d + 1 : Nat) : Int) = (d : Int) + 1 by simp] at HE
    go_wp2_with fail
    refine HE.out.mono ?_
    rintro e w3 ⟨rfl, ⟨n3, hn3, hm3⟩, ho3⟩
    have HM3 := Lib.hid hm3
    have HO3 := Lib.hid (HO2.out.trans ho3)
    have HC := Lib.hid (show codeD (d + 1) (Ex.depths l) = codeD d (Ex.depths l + 1) by unfold codeD; rw [show d + 1 + Ex.depths l = d + (Ex.depths l + 1) by omega])
    clear hm3 ho3
    go_wp2_with fail
    rw [← HQ.out]
    exact ⟨by rw [← HC.out]; rfl, ⟨n3, by omega, HM3.out⟩, (Only.of HB.out (Nat.le_of_eq hbx)).trans HO3.out⟩
theorem size_mem {y : Ex} : ∀ {l : List Ex}, y ∈ l → y.size ≤ Ex.sizes l
  | x :: l, h => by
    rw [sizes_cons]
    rcases List.mem_cons.1 h with rfl | h
    · omega
    · have := size_mem h; omega
theorem len_sizes : ∀ (l : List Ex), l.length ≤ Ex.sizes l
  | [] => Nat.zero_le _
  | x :: l => by
    rw [sizes_cons]
    have := len_sizes l
    have := size_pos x
    simp
    omega
/-- the meter refuses what is deeper than fifty -/
theorem mexpr_any (b : Nat) (P : Nat → Prop) (hP : ¬ P b) : ∀ (N : Nat) (x : Ex), x.size ≤ N → ∀ (d n : Nat) (v : Value) (w : World), ExV P w v x → Mt w b n → n + x.size ≤ 1048576 → d ≤ 51 → 1 ≤ d →
    Calls Tryz.prog 24 #[.pointer (some ⟨b, 0, none⟩), v, .int .i64 (d : Int)] w (MG b d n x.depth x.size w)
  | 0, x, hN, _, _, _, _, _, _, _, _, _ => by have := size_pos x; omega
  | N + 1, .mk op nn nm l, hN, d, n, v, w, hx, hm, hs, hd, hd1 => by
    have hsz : (Ex.mk op nn nm l).size = Ex.sizes l + 1 := by simp [Ex.size]
    have hl := len_sizes l
    refine mexpr_step b d n P hP op nm nn l v w hx hm hs hd hd1 (by omega) ?_
    intro hd50 y hy v' n' W hx' hm' hs'
    exact mexpr_any b P hP N y (by have := size_mem hy; omega) (d + 1) n' v' W hx' hm' hs' (by omega) (by omega)

end Go.Proofs.YtiigclkebnmopaaGreatDoor

namespace Go.Proofs.YtiigclkebnmopaaGreatDoor
open Go.RowKit Go.Shelf

theorem isSign_lit (b : Nat) (T l : List UInt8) (L : List (List UInt8)) (n : Nat) (hn : L.length = n) (w : World) (cs : Array Value) (hcs : cs = (L.map fun s => Value.string (toB s)).toArray) (h : Rd w b T l) (hne : [] ∉ L) (hlen : L.length ≤ 100) :
    Calls Tryz.prog 98 #[.pointer (some ⟨b, 0, none⟩), .slice (some ⟨w.heap.size, 0, none⟩) n n] (w.alloc (.cells cs 9)) (IsSignGives b T l L (w.alloc (.cells cs 9))) := by
  subst hn
  have ba := (Below.refl w.heap.size w).alloc (Nat.le_refl _) (.cells cs 9)
  refine isSign_any b w.heap.size 0 L.length T l L _ (h.keep ba) (fun j hj => ?_) (by have := h.lt; omega) (by simp) hne hlen
  rw [Nat.zero_add, box_cell, hcs]
  simp [hj]
/-- a value is stored as the result -/
theorem SX.givesV {w W : World} {b bx : Nat} {T l l' : List UInt8} {W0 : World} {v0 v1 v2 v3 : Value} {x : Ex} (h0 : SX w b bx T l W0) (hr : Rd W b T l') (ho : Only b W0 W) (hx : ExV (Nw W0) W (.agg #[v0, v1, v2, v3]) x) {o : Out} (heq : o = .ok x l') :
    PG b T o w (.returned (.agg #[v0, v1, v2, v3])) (set4 W bx v0 v1 v2 v3) ∧ Four (set4 W bx v0 v1 v2 v3) bx v0 v1 v2 v3 := by
  have h1 := h0.lt
  have h3 := h0.ne
  refine (h0.step hr ho).gives (hx.mono (fun g hg _ => ?_)) heq
  have hgw : W0.heap.size ≤ g := hg
  exact ⟨by omega, by omega⟩
/-- a value is the part of the result -/
theorem SX.givesV1 {w W : World} {b bx : Nat} {T l l' : List UInt8} {W0 : World} {v0 v1 v2 v3 : Value} {x : Ex} (h0 : SX w b bx T l W0) (hr : Rd W b T l') (ho : Only b W0 W) (hx : ExV (Nw W0) W (.agg #[v0, v1, v2, v3]) x) (s nm : List UInt8) {o : Out} (heq : o = .ok (.mk s 0 nm [x]) l') :
    PG b T o w (.returned (.agg #[.string (toB s), .int .i64 0, .string (toB nm), .slice (some ⟨W.heap.size, 0, none⟩) 1 1])) ((set4 W bx (.string (toB s)) (.int .i64 0) (.string (toB nm)) (.slice (some ⟨W.heap.size, 0, none⟩) 1 1)).alloc (.cells #[v0, v1, v2, v3] 25)) ∧
      Four ((set4 W bx (.string (toB s)) (.int .i64 0) (.string (toB nm)) (.slice (some ⟨W.heap.size, 0, none⟩) 1 1)).alloc (.cells #[v0, v1, v2, v3] 25)) bx (.string (toB s)) (.int .i64 0) (.string (toB nm)) (.slice (some ⟨W.heap.size, 0, none⟩) 1 1) := by
  have ba := (Below.refl W.heap.size W).alloc (Nat.le_refl _) (.cells #[v0, v1, v2, v3] 25)
  have h1 := h0.lt
  have h2 := ho.size
  have h3 := h0.ne
  have hs := h0.step hr ho
  have hl := hs.lt
  rw [← set4_alloc W _ bx _ _ _ _ hl]
  refine (hs.below ba).gives (exv_row (exl_one (hx.mono (fun g hg _ => ?_)) _) ⟨by omega, by omega⟩ (by simp) (by simp) s nm _ rfl) heq
  have hgw : W0.heap.size ≤ g := hg
  exact ⟨by omega, by omega⟩

theorem bind_ok (o : Out) : o.bind Out.ok = o := by cases o <;> rfl
def preS : List (List UInt8) := [[43, 43], [45, 45], [45], [43], [33], [126]]
theorem preS_lit : (#[.string ⟨#[43, 43]⟩, .string ⟨#[45, 45]⟩, .string ⟨#[45]⟩, .string ⟨#[43]⟩, .string ⟨#[33]⟩, .string ⟨#[126]⟩] : Array Value) = (preS.map fun s => Value.string (toB s)).toArray := by
  simp [preS, toB]
def preK (s : List UInt8) (g : List UInt8) (x : Ex) (l1 : List UInt8) : Out := if target x = true then .ok (bx (s ++ [118]) [x]) l1 else .bad g
theorem parse_pre (f : Nat) (l : List UInt8) : parse (f + 1) .pre l = if sg l = [43, 43] ∨ sg l = [45, 45] then (parse f .prim (gap (aft (sg l) l))).bind (preK (sg l) (gap (aft (sg l) l)))
    else if sg l = [45] ∨ sg l = [43] then (parse f .pre (aft (sg l) l)).bind fun x l1 => .ok (bx (117 :: sg l) [x]) l1
    else if sg l = [33] ∨ sg l = [126] then (parse f .pre (aft (sg l) l)).bind fun x l1 => .ok (bx (sg l) [x]) l1
    else parse f .suf (gap l) := rfl
theorem parse_pre1 {f : Nat} {l : List UInt8} (h : sg l = [43, 43] ∨ sg l = [45, 45]) : parse (f + 1) .pre l = (parse f .prim (gap (aft (sg l) l))).bind (preK (sg l) (gap (aft (sg l) l))) := by
  rw [parse_pre, if_pos h]
theorem parse_pre2 {f : Nat} {l : List UInt8} (h1 : ¬ (sg l = [43, 43] ∨ sg l = [45, 45])) (h : sg l = [45] ∨ sg l = [43]) : parse (f + 1) .pre l = (parse f .pre (aft (sg l) l)).bind fun x l1 => .ok (bx (117 :: sg l) [x]) l1 := by
  rw [parse_pre, if_neg h1, if_pos h]
theorem parse_pre3 {f : Nat} {l : List UInt8} (h1 : ¬ (sg l = [43, 43] ∨ sg l = [45, 45])) (h2 : ¬ (sg l = [45] ∨ sg l = [43])) (h : sg l = [33] ∨ sg l = [126]) : parse (f + 1) .pre l = (parse f .pre (aft (sg l) l)).bind fun x l1 => .ok (bx (sg l) [x]) l1 := by
  rw [parse_pre, if_neg h1, if_neg h2, if_pos h]
theorem parse_pre4 {f : Nat} {l : List UInt8} (h : sg l ∉ preS) : parse (f + 1) .pre l = parse f .suf (gap l) := by
  rw [parse_pre, if_neg (fun e => h (by rcases e with e | e <;> rw [e] <;> decide)), if_neg (fun e => h (by rcases e with e | e <;> rw [e] <;> decide)), if_neg (fun e => h (by rcases e with e | e <;> rw [e] <;> decide))]

set_option maxRecDepth 100000 in
set_option maxHeartbeats 6400000 in
theorem prefix_any (f b : Nat) (T : List UInt8) (hP : Ctr 215 .prim f b T) (hS : Ctr 213 .suf f b T) (hR : Ctr 196 .pre f b T) : Ctr 196 .pre (f + 1) b T := by
  intro l w h hm hn
  have HX0 := Lib.hid (SX.start h)
  have HSk := Lib.hid (fun l' W hW => skip_any b T l' W hW)
  have HPr := Lib.hid (hP.at hm)
  have HSu := Lib.hid (hS.at hm)
  have HRe := Lib.hid (hR.at hm)
  have HNn := Lib.hid hn
  have hlt := h.lt
  obtain ⟨o, ho⟩ : ∃ o, parse (f + 1) .pre l = o := ⟨_, rfl⟩
  have HO := Lib.hid ho
  obtain ⟨Q, hQ⟩ : ∃ Q, PG b T o w = Q := ⟨_, rfl⟩
  rw [ho, hQ]
  have HQ := Lib.hid hQ
  clear hQ h hn hP hS hR ho
  go_enter Tryz.func196, Tryz.ntmps196
  go_wp2_with fail
  have hs1 : (w.alloc (.cells #[.string ⟨#[]⟩, .int .i64 0, .string ⟨#[]⟩, .slice none 0 0] 25)).heap.size = w.heap.size + 1 := by simp
  generalize w.alloc (.cells #[.string ⟨#[]⟩, .int .i64 0, .string ⟨#[]⟩, .slice none 0 0] 25) = w1 at *
  have HL := isSign_lit b T l preS 6 rfl w1 #[.string ⟨#[43, 43]⟩, .string ⟨#[45, 45]⟩, .string ⟨#[45]⟩, .string ⟨#[43]⟩, .string ⟨#[33]⟩, .string ⟨#[126]⟩] preS_lit HX0.out.rd (by decide) (by decide)
  rw [hs1] at HL
  refine HL.mono ?_
  clear HL hs1
  rintro e w2 ⟨hcase, ho2⟩
  have ba := (Below.refl w1.heap.size w1).alloc (Nat.le_refl _) (.cells #[.string ⟨#[43, 43]⟩, .string ⟨#[45, 45]⟩, .string ⟨#[45]⟩, .string ⟨#[43]⟩, .string ⟨#[33]⟩, .string ⟨#[126]⟩] 9)
  have HX1 := Lib.hid (HX0.out.below ba)
  clear ba
  generalize w1.alloc (.cells #[.string ⟨#[43, 43]⟩, .string ⟨#[45, 45]⟩, .string ⟨#[45]⟩, .string ⟨#[43]⟩, .string ⟨#[33]⟩, .string ⟨#[126]⟩] 9) = w1' at *
  obtain ⟨bx, hbx⟩ : ∃ bx, w.heap.size = bx := ⟨_, rfl⟩
  rw [hbx] at HX1
  simp only [hbx]
  clear hbx HX0
  rcases hcase with ⟨hin, rfl, hr2⟩ | ⟨hno, rfl, hr2⟩
  · have HX2 := Lib.hid (HX1.out.step hr2 ho2)
    have hsl : (toB (sg l)).toList = sg l := by simp [toB, ByteArray.toList_eq]
    have hsz := sg_len l
    clear hr2 ho2 HX1
    have t1 : ∀ q : List UInt8, ((toB (sg l)).toList == q) = decide (sg l = q) := fun q => by rw [hsl, Bool.eq_iff_iff]; simp
    by_cases h1 : sg l = [43, 43] ∨ sg l = [45, 45]
    · have HO2 := Lib.hid (HO.out.symm.trans (parse_pre1 (f := f) h1))
      have HNn2 := Lib.hid (show parse f .prim (gap (aft (sg l) l)) ≠ .none from bind_none (by rw [← parse_pre1 h1]; exact HNn.out))
      have hcat : toB (sg l) ++ (⟨#[118]⟩ : ByteArray) = toB (sg l ++ [118]) := toB_cat (sg l) [118]
      have he : ((toB (sg l)).toList == [43, 43]) = true ∨ (((toB (sg l)).toList == [43, 43]) = false ∧ ((toB (sg l)).toList == [45, 45]) = true) := by
        rw [hsl]
        rcases h1 with h1 | h1 <;> rw [h1] <;> simp
      have hsz2 : ¬ 9223372036854775807 < (toB (sg l)).size + 1 := by omega
      obtain ⟨g1, hg1⟩ : ∃ g1, gap (aft (sg l) l) = g1 := ⟨_, rfl⟩
      obtain ⟨o1, ho1⟩ : ∃ o1, parse f .prim g1 = o1 := ⟨_, rfl⟩
      have HPr1 := Lib.hid (HPr.out g1)
      have HG1 := Lib.hid hg1
      rw [hg1] at HO2 HNn2
      rw [ho1] at HPr1 HO2 HNn2
      clear h1 hsl t1 hg1 ho1
      rcases he with he | ⟨he, he'⟩
      all_goals
        go_wp2_with fail
        refine (HSk.out (aft (sg l) l) _ HX2.out.rd).mono ?_
        rintro e w3 ⟨rfl, hr3, ho3⟩
        rw [HG1.out] at hr3 ⊢
        have HX3 := Lib.hid (HX2.out.step hr3 ho3)
        clear hr3 ho3
        go_wp2_with fail
        refine (HPr1.out _ HX3.out.rd HX3.out.only HNn2.out).mono ?_
        intro e w4 hp
        rcases out_cases o1 with ⟨x, l1, rfl⟩ | hno
        · obtain ⟨v, rfl, hx, hr4, ho4⟩ := hp
          obtain ⟨n, A, k, c, nm, rfl, hnm⟩ := hx.form
          have HB := Lib.hid (HX3.out.box hr4 ho4 hx)
          have ht := Lib.hid (show (x.op == [101] || x.op == [118] && isNm nm) = target x by rw [hnm]; rfl)
          clear hx hr4 ho4 hnm
          obtain ⟨c0, c1, c2, c3, cf⟩ := HB.out.four.cells
          go_wp2_with fail
          generalize w4.alloc (.cells #[.string (toB x.op), .int .i64 (n : Int), .string (toB nm), .slice A k c] 25) = w5 at *
          generalize w4.heap.size = gx at *
          refine (isTarget_any x.op nm (n : Int) A k c _).mono ?_
          rintro e w6 ⟨rfl, hb6⟩
          rw [ht.out]
          have HB6 := Lib.hid (HB.out.below hb6)
          clear c0 c1 c2 c3 cf hb6
          cases htx : target x with
          | true =>
            have HO3 := Lib.hid (HO2.out.trans (show (Out.ok x l1).bind (preK (sg l) g1) = .ok (Go.Proofs.YtiigclkebnmopaaGreatDoor.bx (sg l ++ [118]) [x]) l1 from if_pos htx))
            clear htx
            obtain ⟨c0, c1, c2, c3, cf⟩ := HB6.out.four.cells
            obtain ⟨d0, d1, d2, d3, df⟩ := HB6.out.sx.res.cells
            have hlt6 := HB6.out.sx.lt
            go_wp2_with fail
            have HE := Lib.hid (HB6.out.gives1 (sg l ++ [118]) [] HO3.out)
            obtain ⟨q0, q1, q2, q3, qf⟩ := HE.out.2.cells
            unfold set4 at q0 q1 q2 q3
            rw [show toB [] = (⟨#[]⟩ : ByteArray) from rfl] at q0 q1 q2 q3
            refine bodyPost_ret (v := .agg #[.string (toB (sg l ++ [118])), .int .i64 0, .string ⟨#[]⟩, .slice (some ⟨w6.heap.size, 0, none⟩) 1 1]) (by simp [results, Tryz.results196, go_sem, q0, q1, q2, q3]) rfl ?_
            rw [← HQ.out]
            exact HE.out.1
          | false =>
            have HO3 := Lib.hid (HO2.out.trans (show (Out.ok x l1).bind (preK (sg l) g1) = .bad g1 from if_neg (by rw [htx]; decide)))
            clear htx
            go_wp2_with fail
            refine (fail_any _ _ _).mono ?_
            rintro e w7 ⟨rfl, rfl⟩
            unfold pan
            go_wp2_with fail
            rw [← HQ.out, HO3.out]
            exact ⟨rfl, ⟨rfl, HB6.out.sx.only⟩⟩
        · obtain ⟨p, c, rfl, ho4, HF⟩ := PG.fail hno hp
          have HO4 := Lib.hid (HX3.out.only.trans ho4)
          have HFF := Lib.hid HF
          clear hp hno ho4 HF
          unfold pan
          go_wp2_with fail
          rw [← HQ.out, HO2.out]
          exact ⟨rfl, HFF.out _ _ HO4.out⟩
    · have e1 : ((toB (sg l)).toList == [43, 43]) = false := by rw [t1]; simpa using fun e => h1 (.inl e)
      have e2 : ((toB (sg l)).toList == [45, 45]) = false := by rw [t1]; simpa using fun e => h1 (.inr e)
      by_cases h2 : sg l = [45] ∨ sg l = [43]
      · have hcat : (⟨#[117]⟩ : ByteArray) ++ toB (sg l) = toB (117 :: sg l) := toB_cat [117] (sg l)
        have he : ((toB (sg l)).toList == [45]) = true ∨ (((toB (sg l)).toList == [45]) = false ∧ ((toB (sg l)).toList == [43]) = true) := by
          rw [hsl]
          rcases h2 with h2 | h2 <;> rw [h2] <;> simp
        have hsz2 : ¬ 9223372036854775807 < 1 + (toB (sg l)).size := by omega
        have HO2 := Lib.hid (HO.out.symm.trans (parse_pre2 (f := f) h1 h2))
        have HNn2 := Lib.hid (show parse f .pre (aft (sg l) l) ≠ .none from bind_none (by rw [← parse_pre2 (f := f) h1 h2]; exact HNn.out))
        clear h1 h2 hsl t1
        obtain ⟨o1, ho1⟩ : ∃ o1, parse f .pre (aft (sg l) l) = o1 := ⟨_, rfl⟩
        have HRe1 := Lib.hid (HRe.out (aft (sg l) l) w2 HX2.out.rd HX2.out.only HNn2.out)
        rw [ho1] at HRe1 HO2
        clear ho1
        rcases he with he | ⟨he, he'⟩
        all_goals
          go_wp2_with fail
          refine HRe1.out.mono ?_
          intro e w3 hp
          rcases out_cases o1 with ⟨x, l1, rfl⟩ | hno
          · obtain ⟨v, rfl, hx, hr3, ho3⟩ := hp
            obtain ⟨n, A, k, c, nm, rfl, hnm⟩ := hx.form
            have HE := Lib.hid (HX2.out.givesV1 hr3 ho3 hx (117 :: sg l) [] (o := o) HO2.out)
            have HX3 := Lib.hid (HX2.out.step hr3 ho3)
            clear hx hr3 ho3 hnm
            obtain ⟨d0, d1, d2, d3, df⟩ := HX3.out.res.cells
            have hlt3 := HX3.out.lt
            go_wp2_with fail
            obtain ⟨q0, q1, q2, q3, qf⟩ := HE.out.2.cells
            unfold set4 at q0 q1 q2 q3
            rw [show toB [] = (⟨#[]⟩ : ByteArray) from rfl] at q0 q1 q2 q3
            refine bodyPost_ret (v := .agg #[.string (toB (117 :: sg l)), .int .i64 0, .string ⟨#[]⟩, .slice (some ⟨w3.heap.size, 0, none⟩) 1 1]) (by simp [results, Tryz.results196, go_sem, q0, q1, q2, q3]) rfl ?_
            rw [← HQ.out]
            exact HE.out.1
          · obtain ⟨p, c, rfl, ho3, HF⟩ := PG.fail hno hp
            have HO3 := Lib.hid (HX2.out.only.trans ho3)
            have HFF := Lib.hid HF
            clear hp hno ho3 HF
            unfold pan
            go_wp2_with fail
            rw [← HQ.out, HO2.out]
            exact ⟨rfl, HFF.out _ _ HO3.out⟩
      · have e3 : ((toB (sg l)).toList == [45]) = false := by rw [t1]; simpa using fun e => h2 (.inl e)
        have e4 : ((toB (sg l)).toList == [43]) = false := by rw [t1]; simpa using fun e => h2 (.inr e)
        have h3 : sg l = [33] ∨ sg l = [126] := by
          have : ∀ s ∈ preS, s = [43, 43] ∨ s = [45, 45] ∨ s = [45] ∨ s = [43] ∨ s = [33] ∨ s = [126] := by decide
          rcases this _ hin with h | h | h | h | h | h
          · exact absurd (.inl h) h1
          · exact absurd (.inr h) h1
          · exact absurd (.inl h) h2
          · exact absurd (.inr h) h2
          · exact .inl h
          · exact .inr h
        have HO2 := Lib.hid (HO.out.symm.trans (parse_pre3 (f := f) h1 h2 h3))
        have HNn2 := Lib.hid (show parse f .pre (aft (sg l) l) ≠ .none from bind_none (by rw [← parse_pre3 (f := f) h1 h2 h3]; exact HNn.out))
        clear h1 h2 h3 hsl t1
        obtain ⟨o1, ho1⟩ : ∃ o1, parse f .pre (aft (sg l) l) = o1 := ⟨_, rfl⟩
        have HRe1 := Lib.hid (HRe.out (aft (sg l) l) w2 HX2.out.rd HX2.out.only HNn2.out)
        rw [ho1] at HRe1 HO2
        clear ho1
        go_wp2_with fail
        refine HRe1.out.mono ?_
        intro e w3 hp
        rcases out_cases o1 with ⟨x, l1, rfl⟩ | hno
        · obtain ⟨v, rfl, hx, hr3, ho3⟩ := hp
          obtain ⟨n, A, k, c, nm, rfl, hnm⟩ := hx.form
          have HE := Lib.hid (HX2.out.givesV1 hr3 ho3 hx (sg l) [] (o := o) HO2.out)
          have HX3 := Lib.hid (HX2.out.step hr3 ho3)
          clear hx hr3 ho3 hnm
          obtain ⟨d0, d1, d2, d3, df⟩ := HX3.out.res.cells
          have hlt3 := HX3.out.lt
          go_wp2_with fail
          obtain ⟨q0, q1, q2, q3, qf⟩ := HE.out.2.cells
          unfold set4 at q0 q1 q2 q3
          rw [show toB [] = (⟨#[]⟩ : ByteArray) from rfl] at q0 q1 q2 q3
          refine bodyPost_ret (v := .agg #[.string (toB (sg l)), .int .i64 0, .string ⟨#[]⟩, .slice (some ⟨w3.heap.size, 0, none⟩) 1 1]) (by simp [results, Tryz.results196, go_sem, q0, q1, q2, q3]) rfl ?_
          rw [← HQ.out]
          exact HE.out.1
        · obtain ⟨p, c, rfl, ho3, HF⟩ := PG.fail hno hp
          have HO3 := Lib.hid (HX2.out.only.trans ho3)
          have HFF := Lib.hid HF
          clear hp hno ho3 HF
          unfold pan
          go_wp2_with fail
          rw [← HQ.out, HO2.out]
          exact ⟨rfl, HFF.out _ _ HO3.out⟩
  · have HX2 := Lib.hid (HX1.out.step hr2 ho2)
    clear hr2 ho2 HX1
    have HO2 := Lib.hid (HO.out.symm.trans (parse_pre4 (f := f) hno))
    have HNn2 := Lib.hid (show parse f .suf (gap l) ≠ .none by rw [← parse_pre4 hno]; exact HNn.out)
    clear hno
    obtain ⟨d0, d1, d2, d3, df⟩ := HX2.out.res.cells
    go_wp2_with fail
    refine (HSu.out (gap l) _ HX2.out.rd HX2.out.only HNn2.out).mono ?_
    intro e w3 hp
    rw [← HO2.out] at hp
    rcases out_cases o with ⟨x, l1, rfl⟩ | hno
    · obtain ⟨v, rfl, hx, hr3, ho3⟩ := hp
      obtain ⟨n, A, k, c, nm, rfl, hnm⟩ := hx.form
      have HE := Lib.hid (HX2.out.givesV hr3 ho3 hx rfl)
      have HX3 := Lib.hid (HX2.out.step hr3 ho3)
      clear hx hr3 ho3 hnm d0 d1 d2 d3 df
      obtain ⟨d0, d1, d2, d3, df⟩ := HX3.out.res.cells
      go_wp2_with fail
      obtain ⟨q0, q1, q2, q3, qf⟩ := HE.out.2.cells
      unfold set4 at q0 q1 q2 q3
      refine bodyPost_ret (v := .agg #[.string (toB x.op), .int .i64 (n : Int), .string (toB nm), .slice A k c]) (by simp [results, Tryz.results196, go_sem, q0, q1, q2, q3]) rfl ?_
      rw [← HQ.out]
      exact HE.out.1
    · obtain ⟨p, c, rfl, ho3, HF⟩ := PG.fail hno hp
      have HO3 := Lib.hid (HX2.out.only.trans ho3)
      have HFF := Lib.hid HF
      clear hp hno ho3 HF
      unfold pan
      go_wp2_with fail
      rw [← HQ.out]
      have h0 := HFF.out Out.ok _ HO3.out
      rw [bind_ok] at h0
      exact ⟨rfl, h0⟩

end Go.Proofs.YtiigclkebnmopaaGreatDoor
