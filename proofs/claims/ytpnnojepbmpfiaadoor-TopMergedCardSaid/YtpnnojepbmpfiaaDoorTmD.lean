/- TopMerged: the difference of two lists (diff). -/
import Derived.Test.YtpnnojepbmpfiaaDoorTmC
namespace Go.Proofs.YtpnnojepbmpfiaaDoor
open Go.RowKit

theorem hkL_cons (a b : List ByteArray) (f t p q : Nat) (r : List (Nat × Nat)) : hkL a b f t ((p, q) :: r) = addH a b f t p q ++ hkL a b (p + 1) (q + 1) r := rfl
theorem hkL_nil (a b : List ByteArray) (f t : Nat) : hkL a b f t [] = addH a b f t a.length b.length := by
  unfold addH
  show (if f < a.length ∨ t < b.length then [(⟨f, t, a.drop f, b.drop t⟩ : HK)] else []) = _
  rw [List.take_of_length_le (by rw [List.length_drop]; exact Nat.le_refl _), List.take_of_length_le (by rw [List.length_drop]; exact Nat.le_refl _)]
theorem GoodP.len {a b : List ByteArray} : ∀ {P : List (Nat × Nat)} {f t : Nat}, GoodP a b f t P → f ≤ a.length → f + P.length ≤ a.length
  | [], _, _, _, hf => hf
  | (p, q) :: r, f, t, h, _ => by
    obtain ⟨h1, _, ⟨x, hx, _⟩, hr⟩ := h
    have hp : p < a.length := (List.getElem?_eq_some_iff.1 hx).1
    have := hr.len (by omega)
    rw [List.length_cons]
    omega
theorem addH_len (a b : List ByteArray) (f t p q : Nat) : (addH a b f t p q).length ≤ 1 := by
  unfold addH
  split <;> simp
theorem Df.lenE {w0 W1 wx : World} {va vb vo : Value} {f t : Nat} {E : List EV} {H : List HK} (h : Df w0 W1 wx va vb f t vo E H) : E.length = H.length := h.hk.len
theorem KP.at {w : World} {A : Option Addr} {n c : Nat} {L : List (Nat × Nat)} (h : KP w (.slice A n c) L) : n = L.length ∧ n ≤ c ∧ (0 < n → ∃ b off, A = some ⟨b, off, none⟩ ∧ b < w.heap.size ∧ ∀ j (h : j < L.length), w.cell? ⟨b, off + j * 2, none⟩ = some (.int .i64 (L[j].1 : Int)) ∧ w.cell? ⟨b, off + j * 2 + 1, none⟩ = some (.int .i64 (L[j].2 : Int))) := by
  obtain ⟨A', c', e, hc, _, h⟩ := h
  injection e with e1 e2 e3
  subst e1 e2 e3
  refine ⟨rfl, hc, fun h0 => ?_⟩
  obtain ⟨b, off, rfl, h1, h2⟩ := h h0
  exact ⟨b, off, rfl, h1, h2⟩
def Blk (w : World) (g : Nat) (t : TypeId) (cs : Array Value) : Prop := w.heap[g]? = some (.cells cs t (0, 0))
theorem Blk.cell {w : World} {g : Nat} {t : TypeId} {cs : Array Value} (h : Blk w g t cs) : (∀ j, w.cell? ⟨g, j, none⟩ = cs[j]?) ∧ (∀ j, w.frozen? ⟨g, j, none⟩ = false) :=
  ⟨fun j => by unfold Blk at h; simp [World.cell?, h], fun j => by unfold Blk at h; simp [World.frozen?, h]⟩
theorem Blk.alloc {w : World} {g : Nat} {t : TypeId} {cs : Array Value} (h : Blk w g t cs) (o : Obj) : Blk (w.alloc o) g t cs := (heap_alloc_old w o (Array.getElem?_eq_some_iff.1 h).1).trans h
theorem Blk.new (w : World) (t : TypeId) (cs : Array Value) {g : Nat} (hg : w.heap.size = g) : Blk (w.alloc (.cells cs t)) g t cs := by subst hg; exact heap_alloc_new w _
theorem Blk.keep {w w' : World} {g : Nat} {t : TypeId} {cs : Array Value} (h : Blk w g t cs) (hb : Below w.heap.size w w') : Blk w' g t cs := (hb.block g (Array.getElem?_eq_some_iff.1 h).1).trans h
theorem al_size (w : World) (o : Obj) {n : Nat} (h : w.heap.size = n) : (w.alloc o).heap.size = n + 1 := by simp [h]
/-- the boxes of diff, and what stay has made -/
theorem Df.start (w : World) (va vb : Value) (t0 t1 t2 t3 t4 : TypeId) {W1 : World} (hb : Below (w.heap.size + 5) (((((w.alloc (.cells #[va] t0)).alloc (.cells #[vb] t1)).alloc (.cells #[.slice none 0 0] t2)).alloc (.cells #[.int .i64 0] t3)).alloc (.cells #[.int .i64 0] t4)) W1) :
    Df w W1 W1 va vb 0 0 (.slice none 0 0) [] [] := by
  obtain ⟨n, hn⟩ : ∃ n, w.heap.size = n := ⟨_, rfl⟩
  have e1 := al_size w (.cells #[va] t0) hn
  have e2 := al_size _ (.cells #[vb] t1) e1
  have e3 := al_size _ (.cells #[.slice none 0 0] t2) e2
  have e4 := al_size _ (.cells #[.int .i64 0] t3) e3
  have e5 := al_size _ (.cells #[.int .i64 0] t4) e4
  have b0 := ((((Blk.new w t0 #[va] hn).alloc (.cells #[vb] t1)).alloc (.cells #[.slice none 0 0] t2)).alloc (.cells #[.int .i64 0] t3)).alloc (.cells #[.int .i64 0] t4)
  have b1 := (((Blk.new _ t1 #[vb] e1).alloc (.cells #[.slice none 0 0] t2)).alloc (.cells #[.int .i64 0] t3)).alloc (.cells #[.int .i64 0] t4)
  have b2 := ((Blk.new _ t2 #[.slice none 0 0] e2).alloc (.cells #[.int .i64 0] t3)).alloc (.cells #[.int .i64 0] t4)
  have b3 := (Blk.new _ t3 #[.int .i64 0] e3).alloc (.cells #[.int .i64 0] t4)
  have b4 := Blk.new _ t4 #[.int .i64 0] e4
  have hB : Below w.heap.size w (((((w.alloc (.cells #[va] t0)).alloc (.cells #[vb] t1)).alloc (.cells #[.slice none 0 0] t2)).alloc (.cells #[.int .i64 0] t3)).alloc (.cells #[.int .i64 0] t4)) :=
    (((((Below.refl w.heap.size w).alloc (Nat.le_refl _) _).alloc (by omega) _).alloc (by omega) _).alloc (by omega) _).alloc (by omega) _
  rw [hn] at hb
  generalize (((((w.alloc (.cells #[va] t0)).alloc (.cells #[vb] t1)).alloc (.cells #[.slice none 0 0] t2)).alloc (.cells #[.int .i64 0] t3)).alloc (.cells #[.int .i64 0] t4)) = w5 at *
  rw [show n + 5 = w5.heap.size by omega] at hb
  have c0 := (b0.keep hb).cell
  have c1 := (b1.keep hb).cell
  have c2 := (b2.keep hb).cell
  have c3 := (b3.keep hb).cell
  have c4 := (b4.keep hb).cell
  have hs := hb.size
  subst hn
  exact ⟨hB.trans (hb.mono (by omega)), by omega, Nat.le_refl _, fun k _ _ => rfl, (c0.1 0).trans rfl, (c1.1 0).trans rfl, (c2.1 0).trans rfl, (c3.1 0).trans rfl, (c4.1 0).trans rfl, c2.2 0, c3.2 0, c4.2 0, World.ownsRow_nil _ _ _ _, .nil⟩
theorem Df.pair {w0 W1 wx : World} {va vb vo : Value} {f t : Nat} {E : List EV} {H : List HK} (h : Df w0 W1 wx va vb f t vo E H) {b o : Nat} (hlt : b < W1.heap.size) (hb : w0.heap.size + 5 ≤ b) : wx.cell? ⟨b, o, none⟩ = W1.cell? ⟨b, o, none⟩ := World.cell?_of_block (h.fr b hb hlt)
set_option maxRecDepth 100000 in
set_option maxHeartbeats 6400000 in
theorem diff_any (a b : List ByteArray) (va vb : Value) (w : World) (ha : SL w va a) (hb : SL w vb b) (hla : a.length ≤ 1000) (hlb : b.length ≤ 1000) :
    Calls Tryd.prog 12 #[va, vb] w fun e w' => ∃ v, e = .returned v ∧ HL w' v (diffL a b) ∧ Below w.heap.size w w' := by
  obtain ⟨A, n, ca, rfl⟩ : ∃ A n c, va = .slice A n c := by obtain ⟨A, c, rfl, _⟩ := ha; exact ⟨_, _, _, rfl⟩
  obtain ⟨B, m, cb, rfl⟩ : ∃ A n c, vb = .slice A n c := by obtain ⟨A, c, rfl, _⟩ := hb; exact ⟨_, _, _, rfl⟩
  have HN := Lib.hid (And.intro ha.len hb.len)
  have HA := Lib.hid ha
  have HB := Lib.hid hb
  have HLa := Lib.hid (And.intro hla hlb)
  have HG := Lib.hid (stL_good a b a 0 b 0 rfl rfl)
  clear ha hb hla hlb
  have hst := fun W1 hb => Df.start w (.slice A n ca) (.slice B m cb) 22 22 43 3 3 (W1 := W1) hb
  have hB5 : Below w.heap.size w (((((w.alloc (.cells #[.slice A n ca] 22)).alloc (.cells #[.slice B m cb] 22)).alloc (.cells #[.slice none 0 0] 43)).alloc (.cells #[.int .i64 0] 3)).alloc (.cells #[.int .i64 0] 3)) :=
    (((((Below.refl w.heap.size w).alloc (Nat.le_refl _) _).alloc (by simp) _).alloc (by simp; try omega) _).alloc (by simp; try omega) _).alloc (by simp; try omega) _
  go_enter Tryd.func12, Tryd.ntmps12
  go_upto_region 4 with fail
  have hs5 : (((((w.alloc (.cells #[.slice A n ca] 22)).alloc (.cells #[.slice B m cb] 22)).alloc (.cells #[.slice none 0 0] 43)).alloc (.cells #[.int .i64 0] 3)).alloc (.cells #[.int .i64 0] 3)).heap.size = w.heap.size + 5 := by simp
  have d0 := hst _ (Below.refl _ _)
  generalize (((((w.alloc (.cells #[.slice A n ca] 22)).alloc (.cells #[.slice B m cb] 22)).alloc (.cells #[.slice none 0 0] 43)).alloc (.cells #[.int .i64 0] 3)).alloc (.cells #[.int .i64 0] 3)) = w5 at *
  have c0 := d0.ca
  have c1 := d0.cb
  rw [show w.heap.size + 1 + 1 + 1 + 1 = w.heap.size + 4 by omega, show w.heap.size + 1 + 1 + 1 = w.heap.size + 3 by omega, show w.heap.size + 1 + 1 = w.heap.size + 2 by omega]
  clear d0
  have HST := Lib.hid hst
  have HS5 := Lib.hid hs5
  have HB5 := Lib.hid hB5
  clear hst hs5 hB5
  go_wp2_with fail
  refine (stay_any a b _ _ w5 (HA.out.keep HB5.out) (HB.out.keep HB5.out) HLa.out.1 HLa.out.2).mono ?_
  rintro e w1 ⟨vp, rfl, hp, hf, hb⟩
  rw [HS5.out] at hf hb
  have HD1 := Lib.hid (HST.out _ hb)
  clear hb c0 c1 HST HB5
  obtain ⟨P, hP⟩ : ∃ P, P = stL a 0 b 0 := ⟨_, rfl⟩
  have HDf := Lib.hid (show hkL a b 0 0 P = diffL a b by rw [hP]; rfl)
  rw [← hP] at hp HG
  have HPL := Lib.hid (HG.out.len (Nat.zero_le _))
  clear hP
  obtain ⟨Ap, cp, rfl, hcp, _, hcell⟩ := hp
  obtain ⟨np, hnp⟩ : ∃ np, np = P.length := ⟨_, rfl⟩
  rw [← hnp]
  have HNp := Lib.hid hnp
  have HCell := Lib.hid (show 0 < np → ∃ b off, Ap = some ⟨b, off, none⟩ ∧ w.heap.size + 5 ≤ b ∧ PrC b off P w1 from fun h0 => by
    obtain ⟨b, off, rfl, h⟩ := hcell (by omega)
    exact ⟨b, off, rfl, hf b rfl, h⟩)
  have hnpl : np ≤ 1000 := by have := HPL.out; have := HLa.out; omega
  clear hcell hf hnp hcp
  go_wp2_with fail
  go_loopw [16] (fun s16 wr => ∃ (i f t : Nat) (vo : Value) (E : List EV) (H : List HK), s16 = .int .i64 (i : Int) ∧ Hid (i ≤ np) ∧ Hid (Df w w1 wr (.slice A n ca) (.slice B m cb) f t vo E H) ∧ Hid (H ++ hkL a b f t (P.drop i) = diffL a b) ∧ Hid (GoodP a b f t (P.drop i)) ∧ Hid (f ≤ a.length ∧ t ≤ b.length) ∧ Hid (E.length ≤ i)) (fun s16 _ => np - (intOf s16).toNat)
  case atStart => exact ⟨0, 0, 0, _, [], [], rfl, Lib.hid (Nat.zero_le _), HD1, HDf, HG, Lib.hid ⟨Nat.zero_le _, Nat.zero_le _⟩, Lib.hid (Nat.le_refl _)⟩
  case round =>
    clear HD1
    obtain ⟨i, f, t, vo, E, H, rfl, HI, HD, HE, HGd, HFt, HLe⟩ := hrel
    by_cases hlt : i < np
    · have hltz : (i : Int) < (np : Int) := by omega
      obtain ⟨bp, off, rfl, hbp, hpc⟩ := HCell.out (by omega)
      have hiP : i < P.length := by have := HNp.out; omega
      obtain ⟨q1, q2⟩ := hpc.2 i hiP
      have c1 := (HD.out.pair hpc.1 hbp).trans q1
      have c2 := (HD.out.pair hpc.1 hbp).trans q2
      have hdr := List.drop_eq_getElem_cons hiP
      have he := HE.out
      have hg := HGd.out
      rw [hdr] at he hg
      clear q1 q2 hdr hpc HE HGd
      obtain ⟨⟨p, q⟩, hpq⟩ : ∃ x, x = P[i] := ⟨_, rfl⟩
      rw [← hpq] at c1 c2 he hg
      obtain ⟨g1, g2, ⟨x, g3, g4⟩, g5⟩ := hg
      have hpa : p < a.length := (List.getElem?_eq_some_iff.1 g3).1
      have hqb : q < b.length := (List.getElem?_eq_some_iff.1 g4).1
      rw [hkL_cons, ← List.append_assoc] at he
      have HE2 := Lib.hid he
      have HG2 := Lib.hid g5
      have HQ := Lib.hid (And.intro (And.intro g1 hpa) (And.intro g2 hqb))
      clear hpq hiP g1 g2 g3 g4 g5 hpa hqb he
      go_upto_region 7 with fail
      have hal := (Below.refl wr.heap.size wr).alloc (Nat.le_refl _) (.cells #[.int .i64 (p : Int), .int .i64 (q : Int)] 66)
      have HC := Lib.hid (diff1_any a b _ _ vo w w1 _ f t p q E H (HD.out.keep hal) HA.out HB.out HQ.out.1.1 (Nat.le_of_lt HQ.out.1.2) HQ.out.2.1 (Nat.le_of_lt HQ.out.2.2) HLa.out.1 HLa.out.2 (by have := HLe.out; have := HPL.out; have := HLa.out; have := HNp.out; omega))
      clear hal
      go_wp2_with fail
      refine HC.out.mono ?_
      rintro e w2 ⟨rfl, vo', E', hD'⟩
      have HL' := Lib.hid (show E'.length ≤ i + 1 by
        have h1 := hD'.lenE
        have h2 := HD.out.lenE
        have h3 := addH_len a b f t p q
        have h4 := HLe.out
        rw [List.length_append] at h1
        omega)
      have HD' := Lib.hid hD'
      clear hD'
      go_wp2_with fail
      exact ⟨⟨i + 1, p + 1, q + 1, vo', E', _, by go_num, Lib.hid hlt, HD', HE2, HG2, Lib.hid ⟨HQ.out.1.2, HQ.out.2.2⟩, HL'⟩, by simp [intOf]; omega⟩
    · obtain rfl : i = np := by have := HI.out; omega
      have hnz : ¬ (i : Int) < (i : Int) := by omega
      have he := HE.out
      rw [List.drop_of_length_le (by have := HNp.out; omega), hkL_nil] at he
      have HE2 := Lib.hid he
      have k0 := HD.out.ca
      have k1 := HD.out.cb
      have HC := Lib.hid (diff1_any a b _ _ vo w w1 wr f t a.length b.length E H HD.out HA.out HB.out HFt.out.1 (Nat.le_refl _) HFt.out.2 (Nat.le_refl _) HLa.out.1 HLa.out.2 (by have := HLe.out; have := HPL.out; have := HLa.out; have := HNp.out; omega))
      rw [← HN.out.1, ← HN.out.2] at HC
      clear he HE hlt
      go_wp2_with fail
      refine HC.out.mono ?_
      rintro e w2 ⟨rfl, vo', E', hD'⟩
      have k2 := hD'.co
      have HR := Lib.hid (show HL w2 vo' (diffL a b) from ⟨E', KE.of_own hD'.own, by have h1 := hD'.hk.are; rw [HN.out.1, HN.out.2, HE2.out] at h1; exact h1⟩)
      have HB2 := Lib.hid hD'.below
      clear hD' k0 k1
      go_wp2_with fail
      go_ret
      exact ⟨_, rfl, HR.out, HB2.out⟩
end Go.Proofs.YtpnnojepbmpfiaaDoor
