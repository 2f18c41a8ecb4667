/- Arithmetic expressions: the reference's reader: peek, next, got, fail, more. -/
import Derived.Test.YtiigclkebnmopaaGreatDoorArPlain
import Derived.Test.YtiigclkebnmopaaGreatDoorArSign
import Derived.Test.YtiigclkebnmopaaGreatDoorArLev
namespace Go.Proofs.YtiigclkebnmopaaGreatDoor
open Go.RowKit Go.Shelf

def rrC (T : List UInt8) (p : Nat) (j : Bool) : Array Value := #[.string (toB T), .int .i64 (p : Int), .slice none 0 0, .bool false, .pointer none, .bool j]
/-- the reference's reader in block b stands at l, the end of T -/
structure RRd (w : World) (b : Nat) (T l : List UInt8) : Prop where
  box : ∃ (p : Nat) (j : Bool), p + l.length = T.length ∧ w.heap[b]? = some (.cells (rrC T p j) 70 (0, 0))
  suf : ∃ pre, T = pre ++ l
  len : T.length ≤ 16384
  nz : (0 : UInt8) ∉ T
theorem RRd.lt {w : World} {b : Nat} {T l : List UInt8} (h : RRd w b T l) : b < w.heap.size := by
  obtain ⟨p, j, _, hb⟩ := h.box
  exact (Array.getElem?_eq_some_iff.1 hb).1
theorem RRd.keep {w w' : World} {b : Nat} {T l : List UInt8} (h : RRd w b T l) (hb : Below w.heap.size w w') : RRd w' b T l := by
  obtain ⟨p, j, h1, h4⟩ := h.box
  exact ⟨⟨p, j, h1, (hb.block b h.lt).trans h4⟩, h.suf, h.len, h.nz⟩
theorem RRd.drewN {w : World} {b : Nat} {T l : List UInt8} (h : RRd w b T l) (n : Nat) : RRd (w.drewN n) b T l := ⟨h.box, h.suf, h.len, h.nz⟩
/-- the reader's cells -/
theorem RRd.cells {w : World} {b : Nat} {T l : List UInt8} (h : RRd w b T l) : ∃ (p : Nat) (j : Bool), p + l.length = T.length ∧ T.drop p = l ∧ w.cell? ⟨b, 0, none⟩ = some (.string (toB T)) ∧ w.cell? ⟨b, 1, none⟩ = some (.int .i64 (p : Int)) ∧ w.cell? ⟨b, 5, none⟩ = some (.bool j) ∧
    (∀ i, w.frozen? ⟨b, i, none⟩ = false) ∧ w.heap[b]? = some (.cells (rrC T p j) 70 (0, 0)) := by
  obtain ⟨p, j, h1, h4⟩ := h.box
  obtain ⟨pre, hT⟩ := h.suf
  refine ⟨p, j, h1, ?_, ?_, ?_, ?_, ?_, h4⟩
  · have : p = pre.length := by rw [hT] at h1; simp at h1; omega
    rw [hT, this, List.drop_left]
  all_goals first | simp [World.cell?, h4, rrC] | skip
  intro i
  simp [World.frozen?, h4]
theorem RRd.put {w : World} {b p : Nat} {j : Bool} {T l l' : List UInt8} {p' : Nat} (h : RRd w b T l) (hb : w.heap[b]? = some (.cells (rrC T p j) 70 (0, 0))) (hp : p' + l'.length = T.length) (hs : T.drop p' = l') :
    RRd (w.setCell ⟨b, 1, none⟩ (.int .i64 (p' : Int))) b T l' := by
  refine ⟨⟨p', j, hp, ?_⟩, ⟨T.take p', by rw [← hs]; simp⟩, h.len, h.nz⟩
  rw [heap_setCell_same _ _ _ _ _ _ hb]
  rfl
theorem RRd.mark {w : World} {b : Nat} {T l : List UInt8} (h : RRd w b T l) (j : Bool) : RRd (w.setCell ⟨b, 5, none⟩ (.bool j)) b T l := by
  obtain ⟨p, j0, h1, h4⟩ := h.box
  refine ⟨⟨p, j, h1, ?_⟩, h.suf, h.len, h.nz⟩
  rw [heap_setCell_same _ _ _ _ _ _ h4]
  rfl
theorem RRd.store {w : World} {b : Nat} {T l l' : List UInt8} {q : Nat} (h : RRd w b T l) (hq : q + l'.length = T.length) (hd : T.drop q = l') : RRd (w.setCell ⟨b, 1, none⟩ (.int .i64 (q : Int))) b T l' := by
  obtain ⟨p, j, hp, _, _, _, _, _, hb⟩ := h.cells
  exact h.put hb hq hd
theorem RRd.pos {w : World} {b : Nat} {T l : List UInt8} (h : RRd w b T l) : posOf w b + l.length = T.length := by
  obtain ⟨p, j, h1, _, _, c1, _⟩ := h.cells
  unfold posOf
  rw [c1]
  simp
  omega
theorem RRd.sub {w : World} {b : Nat} {T l : List UInt8} (h : RRd w b T l) : (0 : UInt8) ∉ l := by
  obtain ⟨pre, hT⟩ := h.suf
  have := h.nz
  rw [hT] at this
  exact fun hm => this (List.mem_append.2 (.inr hm))
theorem RRd.only {w w' : World} {b y : Nat} {T l : List UInt8} (h : RRd w b T l) (ho : Only y w w') (hy : b ≠ y) : RRd w' b T l := by
  obtain ⟨p, j, h1, h4⟩ := h.box
  exact ⟨⟨p, j, h1, (ho.block b h.lt hy).trans h4⟩, h.suf, h.len, h.nz⟩
theorem RRd.grown {w w' : World} {b B : Nat} {T l : List UInt8} {row : Option Nat} (h : RRd w b T l) (hg : w.grownBy w' row) (hr : ∀ r, row = some r → B ≤ r) (hb : b < B) : RRd w' b T l := by
  obtain ⟨p, j, h1, h4⟩ := h.box
  exact ⟨⟨p, j, h1, (hg.block b h.lt (fun e => by have := hr b e.symm; omega)).trans h4⟩, h.suf, h.len, h.nz⟩
/-- the next byte, 0 at the end -/
def headB (l : List UInt8) : UInt8 := match l with
  | [] => 0
  | c :: _ => c
def RPeekGives (b : Nat) (T l : List UInt8) (w : World) (e : Ending) (w' : World) : Prop := e = .returned (.int .u8 ((headB (skipJ l)).toNat : Int)) ∧ RRd w' b T (skipJ l) ∧ Only b w w'
set_option maxRecDepth 100000 in
set_option maxHeartbeats 1600000 in
theorem rpeek_any (b : Nat) (T l : List UInt8) (w : World) (h : RRd w b T l) :
    Calls Tryz.prog 30 #[.pointer (some ⟨b, 0, none⟩)] w (RPeekGives b T l w) := by
  have HR := Lib.hid h
  obtain ⟨Q, hQ⟩ : ∃ Q, RPeekGives b T l w = Q := ⟨_, rfl⟩
  rw [hQ]
  have HQ := Lib.hid hQ
  clear h hQ
  go_enter Tryz.func30, Tryz.ntmps30
  go_wp2_with fail
  go_loopw [] (fun wr => ∃ l', Hid (RRd wr b T l') ∧ Hid (skipJ l' = skipJ l) ∧ Hid (Only b w wr)) (fun wr => T.length - posOf wr b)
  case atStart => exact ⟨l, HR, Lib.hid rfl, Lib.hid (Only.refl b w)⟩
  case round =>
    obtain ⟨l', HR, HS, HO⟩ := hrel
    obtain ⟨p, j, hp, hd, c0, c1, c5, cf, hbx⟩ := HR.out.cells
    have hT := HR.out.len
    have hp0 : (p : Int) ≤ ((toB T).size : Int) := by have := toB_size T; omega
    have hpx : ((toB T).extract p T.length).data.toList = l' := by
      simp [ByteArray.data_extract, toB]
      rw [← hp, Nat.add_sub_cancel_left]
      simp [hd]
    have hsz := toB_size T
    have HRa := HR
    by_cases hj : ∃ r, l' = 92 :: 10 :: r
    · obtain ⟨r, rfl⟩ := hj
      have hpf : Lib.hasPrefix ((toB T).extract p T.length).data.toList [92, 10] = true := by rw [hpx]; simp [Lib.hasPrefix]
      have HP := Lib.hid (HRa.out.pos)
      have hlen : (92 :: 10 :: r).length = r.length + 2 := rfl
      rw [hlen] at hp
      have e1 : IntKind.i64.wrap ((p : Int) + 2) = (p : Int) + 2 := IntWalk.i64_in _ (by omega)
      clear hpx
      go_upto_region 1 with fail
      go_quiet ((go_at_call 58; exact Calls.quiet_of_same (Tryz.strings_HasPrefix _ _ _)))
      rw [hpf]
      have HR2 := Lib.hid (HR.out.drewN nq)
      have HO2 := Lib.hid (HO.out.drewN nq)
      clear HR HO c0 c1 c5 cf hbx hd hp0 HRa
      generalize wr.drewN nq = w1 at *
      obtain ⟨p2, j2, hp2, hd2, c0, c1, c5, cf, hbx⟩ := HR2.out.cells
      rw [hlen] at hp2
      obtain rfl : p2 = p := by omega
      have HB3 := Lib.hid (HR2.out.store (q := p2 + 2) (l' := r) (by omega) (by rw [← List.drop_drop, hd2]; rfl))
      have HO3 := Lib.hid (HO2.out.setCell (i := 1) (.int .i64 ((p2 + 2 : Nat) : Int)))
      rw [show ((p2 + 2 : Nat) : Int) = (p2 : Int) + 2 by simp] at HB3 HO3
      clear hbx hd2 c0 c5 hp2 j
      go_upto_region 3 with fail
      clear c1 cf hpf HR2 HO2
      generalize w1.setCell ⟨b, 1, none⟩ (.int .i64 ((p2 : Int) + 2)) = w2 at *
      obtain ⟨p3, j3, hp3, hd3, c0, c1, c5, cf, hbx⟩ := HB3.out.cells
      have hT2 : (p3 : Int) = (p2 : Int) + 2 := by omega
      clear hbx hd3
      have HF : ∀ v, Hid (RRd (w2.setCell ⟨b, 5, none⟩ (.bool v)) b T r ∧ Only b w (w2.setCell ⟨b, 5, none⟩ (.bool v))) := fun v => Lib.hid ⟨HB3.out.mark v, HO3.out.setCell _⟩
      have HFin := Lib.hid (fun (W : World) (h : RRd W b T r ∧ Only b w W) => (show (∃ l', Hid (RRd W b T l') ∧ Hid (skipJ l' = skipJ l) ∧ Hid (Only b w W)) ∧ T.length - posOf W b < T.length - posOf wr b from ⟨⟨r, Lib.hid h.1, Lib.hid (by rw [← HS.out]; simp [skipJ]), Lib.hid h.2⟩, by
        have h1 := h.1.pos
        have h2 := HP.out
        rw [hlen] at h2
        omega⟩))
      cases j3 with
      | true =>
        go_region
        go_wp2
        exact HFin.out _ ⟨(HF true).out.1.drewN 1, (HF true).out.2.drewN 1⟩
      | false =>
        go_region
        go_wp2
        exact HFin.out _ ⟨(HF _).out.1.drewN 1, (HF _).out.2.drewN 1⟩
    · have hpf : Lib.hasPrefix ((toB T).extract p T.length).data.toList [92, 10] = false := by
        rw [hpx]
        cases h : Lib.hasPrefix l' [92, 10] with
        | false => rfl
        | true =>
          exfalso
          obtain ⟨r, hr⟩ := List.isPrefixOf_iff_prefix.1 h
          exact hj ⟨r, hr.symm⟩
      have hsk : skipJ l' = l' := by
        match l', hj with
        | [], _ => rfl
        | [a], _ => rfl
        | a :: c :: r, hj =>
          unfold skipJ
          rw [if_neg (fun h => hj ⟨r, by rw [h.1, h.2]⟩)]
      have HK := Lib.hid (show l' = skipJ l from hsk.symm.trans HS.out)
      clear hj hsk hpx
      go_upto_region 1 with fail
      go_quiet ((go_at_call 58; exact Calls.quiet_of_same (Tryz.strings_HasPrefix _ _ _)))
      rw [hpf]
      have HR2 := Lib.hid (HR.out.drewN nq)
      have HO2 := Lib.hid (HO.out.drewN nq)
      clear HR HO c0 c1 c5 cf hbx hd hp0 HRa
      generalize wr.drewN nq = w1 at *
      obtain ⟨p2, j2, hp2, hd, c0, c1, c5, cf, hbx⟩ := HR2.out.cells
      obtain rfl : p2 = p := by omega
      clear hbx cf hp2
      cases l' with
      | nil =>
        have hpe : p2 = T.length := hp
        subst hpe
        go_upto_region 4 with fail
        go_quiet (fail)
        have HR3 := Lib.hid (HR2.out.drewN nq)
        have HO3 := Lib.hid (HO2.out.drewN nq)
        go_wp2_with fail
        rw [← HQ.out]
        exact ⟨by rw [← HK.out]; rfl, by rw [← HK.out]; exact HR3.out, HO3.out⟩
      | cons a r =>
        have hlen : (a :: r).length = r.length + 1 := rfl
        rw [hlen] at hp
        have hne : ((p2 : Int) == (T.length : Int)) = false := by rw [beq_eq_false_iff_ne]; omega
        have hlt : (p2 : Int) < ((toB T).size : Int) := by omega
        have hp0 : (0 : Int) ≤ (p2 : Int) := by omega
        have hlt2 : (p2 : Int) < (T.length : Int) := by omega
        have hlt3 : p2 < T.length := by omega
        have hlt4 : p2 < (toB T).size := by omega
        go_upto_region 4 with fail
        go_quiet (fail)
        have HR3 := Lib.hid (HR2.out.drewN nq)
        have HO3 := Lib.hid (HO2.out.drewN nq)
        clear c0 c1 c5
        generalize w1.drewN nq = w2 at *
        obtain ⟨p3, j3, hp3, _, c0, c1, c5, cf, hbx⟩ := HR3.out.cells
        rw [hlen] at hp3
        obtain rfl : p3 = p2 := by omega
        go_wp2_with fail
        go_quiet (fail)
        have HR4 := Lib.hid (HR3.out.drewN nq)
        have HO4 := Lib.hid (HO3.out.drewN nq)
        have hat : ((toB T)[p3]'(by omega)) = a := by
          show (toB T).data[p3]'_ = a
          have e : T[p3]? = some a := by
            have := congrArg (·[0]?) hd
            simpa using this
          obtain ⟨_, e⟩ := List.getElem?_eq_some_iff.1 e
          simpa [toB] using e
        have HA := Lib.hid hat
        clear hat
        go_wp2_with fail
        rw [← HQ.out]
        refine ⟨?_, by rw [← HK.out]; exact HR4.out, HO4.out⟩
        rw [← HK.out, HA.out]
        rfl

end Go.Proofs.YtiigclkebnmopaaGreatDoor

namespace Go.Proofs.YtiigclkebnmopaaGreatDoor
open Go.RowKit Go.Shelf

/-- a panic with a fault -/
def rpan (place e : Int) : Ending := .panicked [{ v := .iface 109 (.agg #[.int .i64 place, .int .i64 e]), recovered := false }]
theorem rfail_any (v : Value) (n : Int) (w : World) : Calls Tryz.prog 31 #[v, .int .i64 n] w fun e w' => e = rpan n 1 ∧ w' = w := by
  go_enter Tryz.func31, Tryz.ntmps31
  go_wp2
  exact ⟨rfl, rfl, rfl⟩
theorem rmore_any (b : Nat) (T l : List UInt8) (w : World) (h : RRd w b T l) : Calls Tryz.prog 161 #[.pointer (some ⟨b, 0, none⟩)] w fun e w' => e = rpan T.length 27 ∧ w' = w := by
  obtain ⟨p, j, hp, hd, c0, c1, c5, cf, hbx⟩ := h.cells
  have hsz := toB_size T
  clear hbx cf h hd
  go_enter Tryz.func161, Tryz.ntmps161
  go_wp2
  exact ⟨rfl, rfl, rfl⟩

/-- the next byte is taken -/
def RNextGives (b : Nat) (T l : List UInt8) (w : World) (e : Ending) (w' : World) : Prop := e = .returned (.int .u8 ((headB (skipJ l)).toNat : Int)) ∧ RRd w' b T ((skipJ l).drop 1) ∧ Only b w w'
set_option maxRecDepth 100000 in
set_option maxHeartbeats 1600000 in
theorem rnext_any (b : Nat) (T l : List UInt8) (w : World) (h : RRd w b T l) :
    Calls Tryz.prog 162 #[.pointer (some ⟨b, 0, none⟩)] w (RNextGives b T l w) := by
  have HPk := Lib.hid (rpeek_any b T l w h)
  obtain ⟨Q, hQ⟩ : ∃ Q, RNextGives b T l w = Q := ⟨_, rfl⟩
  rw [hQ]
  have HQ := Lib.hid hQ
  clear h hQ
  go_enter Tryz.func162, Tryz.ntmps162
  go_wp2_with fail
  refine HPk.out.mono ?_
  rintro e w2 ⟨rfl, hr2, ho2⟩
  have HR2 := Lib.hid hr2
  have HO2 := Lib.hid ho2
  clear hr2 ho2 HPk
  cases hk : skipJ l with
  | nil =>
    rw [hk] at HR2
    have HK := Lib.hid hk
    clear hk
    rw [show ((headB []).toNat : Int) = 0 from rfl]
    go_wp2_with fail
    rw [← HQ.out]
    exact ⟨by rw [HK.out]; rfl, by rw [HK.out]; exact HR2.out, HO2.out⟩
  | cons c r =>
    rw [hk] at HR2
    have HK := Lib.hid hk
    have hc0 : c ≠ 0 := fun e => HR2.out.sub (by rw [e]; exact List.mem_cons_self)
    have hc1 : c.toNat ≠ 0 := fun e => hc0 (UInt8.toNat_inj.1 (by simpa using e))
    have hne : ((c.toNat : Int) != 0) = true := by simpa using hc1
    obtain ⟨p, j, hp, hd, c0, c1, c5, cf, hbx⟩ := HR2.out.cells
    have hlen : (c :: r).length = r.length + 1 := rfl
    rw [hlen] at hp
    have hT := HR2.out.len
    have e1 : IntKind.i64.wrap ((p : Int) + 1) = (p : Int) + 1 := IntWalk.i64_in _ (by omega)
    have HF := Lib.hid (HR2.out.store (q := p + 1) (l' := r) (by omega) (by rw [← List.drop_drop, hd]; rfl))
    have HG := Lib.hid (HO2.out.setCell (i := 1) (.int .i64 ((p + 1 : Nat) : Int)))
    clear hbx hd hlen hk hc0 hc1 c0 c5
    rw [show headB (c :: r) = c from rfl]
    go_wp2_with fail
    rw [← HQ.out]
    exact ⟨by rw [HK.out]; rfl, by rw [HK.out]; exact HF.out, HG.out⟩

def RTakeGives (b : Nat) (T l s : List UInt8) (w : World) (e : Ending) (w' : World) : Prop := e = .returned (.bool (takeS s l).isSome) ∧ RRd w' b T ((takeS s l).getD l) ∧ Only b w w'
theorem headB_ne {l : List UInt8} {c : UInt8} (hc : c ≠ 0) : headB l = c ↔ ∃ r, l = c :: r := by
  cases l with
  | nil =>
    constructor
    · intro h
      exact absurd h.symm hc
    · rintro ⟨r, hr⟩
      cases hr
  | cons a r =>
    constructor
    · intro h
      have h2 : a = c := h
      exact ⟨r, by rw [h2]⟩
    · rintro ⟨r', hr⟩
      injection hr with h1 _
set_option maxRecDepth 100000 in
set_option maxHeartbeats 1600000 in
theorem rgot_any (b : Nat) (T l s : List UInt8) (w : World) (h : RRd w b T l) (hs : s.length ≤ 100) (hz : (0 : UInt8) ∉ s) :
    Calls Tryz.prog 108 #[.pointer (some ⟨b, 0, none⟩), .string (toB s)] w (RTakeGives b T l s w) := by
  have HR := Lib.hid h
  have HNx := Lib.hid (fun l' W hW => rnext_any b T l' W hW)
  obtain ⟨Q, hQ⟩ : ∃ Q, RTakeGives b T l s w = Q := ⟨_, rfl⟩
  rw [hQ]
  have HQ := Lib.hid hQ
  obtain ⟨p0, j0, hp0, hd0, c0, c1, c5, cf, hbx⟩ := h.cells
  have HD := Lib.hid (show p0 + l.length = T.length ∧ T.drop p0 = l from ⟨hp0, hd0⟩)
  have HZ := Lib.hid hz
  have hT := h.len
  have hp1 : p0 ≤ 16384 := by omega
  have hsz := toB_size s
  clear h hQ hbx cf hd0 hp0 c0 c5 hz
  go_enter Tryz.func108, Tryz.ntmps108
  go_wp2_with fail
  go_loopw [13] (fun s13 wr => ∃ (k : Nat) (l' : List UInt8), s13 = .int .i64 (k : Int) ∧ k ≤ s.length ∧ Hid (RRd wr b T l') ∧ Hid (takeS (s.drop k) l' = takeS s l) ∧ Hid (Only b w wr)) (fun s13 _ => s.length - (intOf s13).toNat)
  case atStart => exact ⟨0, l, rfl, Nat.zero_le _, HR, Lib.hid rfl, Lib.hid (Only.refl b w)⟩
  case round =>
    clear HR c1
    obtain ⟨k, l', rfl, hk, HR, HS, HO⟩ := hrel
    by_cases hlt : k < s.length
    · have HR1 : Hid (RRd wr.drew b T l') := Lib.hid (HR.out.drewN 1)
      have HO1 : Hid (Only b w wr.drew) := Lib.hid (HO.out.drewN 1)
      have hb2 : k < (toB s).size := by omega
      have hat : ((toB s)[k]'hb2) = s[k] := by
        show (toB s).data[k]'_ = s[k]
        simp [toB]
        rfl
      have hkz : s[k] ≠ 0 := fun e => HZ.out (e ▸ List.getElem_mem hlt)
      have HAt := Lib.hid hat
      clear hat
      have hdr : s.drop k = s[k] :: s.drop (k + 1) := List.drop_eq_getElem_cons hlt
      by_cases hc : ∃ r, skipJ l' = s[k] :: r
      · obtain ⟨r, hr⟩ := hc
        have hbe : (((headB (skipJ l')).toNat : Int) != (((toB s)[k]'hb2).toNat : Int)) = false := by
          rw [HAt.out, (headB_ne hkz).2 ⟨r, hr⟩]; simp
        have HS2 := Lib.hid (show takeS (s.drop (k + 1)) r = takeS s l by rw [← HS.out, hdr]; simp [takeS, hr])
        have HRr := Lib.hid (show (skipJ l').drop 1 = r by rw [hr]; rfl)
        clear hr hdr HS
        go_upto_region 5 with fail
        go_region_held3 (fun _ => True) (trivial) (first
          | (go_at_call 162; refine (HNx.out l' _ HR1.out).mono ?_; rintro e w2 ⟨rfl, hr2, ho2⟩; have HR2 := Lib.hid hr2; have HO2 := Lib.hid (HO1.out.trans ho2); clear hr2 ho2))
        all_goals
          have HR3 := Lib.hid (show RRd w2 b T r by have h := HR2.out; rw [HRr.out] at h; exact h)
          go_wp2_with fail
          exact ⟨⟨k + 1, r, by go_num, by omega, HR3, HS2, HO2⟩, by simp [intOf]; omega⟩
      · have hbe : (((headB (skipJ l')).toNat : Int) != (((toB s)[k]'hb2).toNat : Int)) = true := by
          rw [HAt.out]
          have hn := fun e => hc ((headB_ne hkz).1 e)
          rw [bne_iff_ne]
          intro h
          exact hn (UInt8.toNat_inj.1 (by omega))
        have HS2 := Lib.hid (show takeS s l = none by
          rw [← HS.out, hdr]
          unfold takeS
          split
          · rename_i d r hd
            rw [if_neg (fun e => hc ⟨r, by rw [hd, e]⟩)]
          · rfl)
        clear hc hdr HS hkz
        go_upto_region 5 with fail
        go_region_held3 (fun _ => True) (trivial) (first
          | (go_at_call 162; refine (HNx.out l' _ HR1.out).mono ?_; rintro e w2 ⟨rfl, hr2, ho2⟩; have HR2 := Lib.hid hr2; have HO2 := Lib.hid (HO1.out.trans ho2); clear hr2 ho2))
        all_goals
          obtain ⟨p, j, hp, hd, c0, c1, c5, cf, hbx⟩ := HR2.out.cells
          have HF := Lib.hid (HR2.out.store HD.out.1 HD.out.2)
          have HG := Lib.hid (HO2.out.setCell (i := 1) (.int .i64 (p0 : Int)))
          clear hbx hd hp
          go_wp2_with fail
          rw [← HQ.out]
          exact ⟨by rw [HS2.out]; rfl, by rw [HS2.out]; exact HF.out, HG.out⟩
    · obtain rfl : k = s.length := by omega
      go_wp2_with fail
      rw [← HQ.out]
      have h1 := HS.out
      rw [List.drop_length] at h1
      have h2 : takeS s l = some l' := h1.symm
      exact ⟨by rw [h2]; rfl, by rw [h2]; exact HR.out, HO.out⟩

end Go.Proofs.YtiigclkebnmopaaGreatDoor

namespace Go.Proofs.YtiigclkebnmopaaGreatDoor
open Go.RowKit Go.Shelf

set_option maxHeartbeats 1600000 in
theorem rdigit_any (c : UInt8) (w : World) : Calls Tryz.prog 129 #[.int .u8 (c.toNat : Int)] w fun e w' => e = .returned (.bool (isD c)) ∧ w = w' := by
  have HC := Lib.hid ((isDB_u8 c).symm.trans (show isDB (c.toNat : Int) = decide (48 ≤ (c.toNat : Int) ∧ (c.toNat : Int) ≤ 57) from rfl))
  generalize isD c = r at *
  generalize (c.toNat : Int) = c at *
  by_cases h1 : 48 ≤ c
  · go_enter Tryz.func129, Tryz.ntmps129
    go_wp2
    go_ret
    exact ⟨ret_bool (by rw [HC.out, Bool.eq_iff_iff]; simp <;> omega), rfl⟩
  · go_enter Tryz.func129, Tryz.ntmps129
    go_wp2
    go_ret
    exact ⟨ret_bool (by rw [HC.out, Bool.eq_iff_iff]; simp <;> omega), rfl⟩
set_option maxHeartbeats 1600000 in
theorem rletter_any (c : UInt8) (w : World) : Calls Tryz.prog 128 #[.int .u8 (c.toNat : Int)] w fun e w' => e = .returned (.bool (isL c)) ∧ w = w' := by
  have HC := Lib.hid ((isLB_u8 c).symm.trans (show isLB (c.toNat : Int) = decide (97 ≤ (c.toNat : Int) ∧ (c.toNat : Int) ≤ 122 ∨ 65 ≤ (c.toNat : Int) ∧ (c.toNat : Int) ≤ 90 ∨ (c.toNat : Int) = 95) from rfl))
  generalize isL c = r at *
  generalize (c.toNat : Int) = c at *
  by_cases h5 : c = 95
  · have hb5 : (c == 95) = true := by simpa using h5
    go_enter Tryz.func128, Tryz.ntmps128
    go_wp2
    go_ret
    exact ⟨ret_bool (by rw [HC.out, Bool.eq_iff_iff]; simp <;> omega), rfl⟩
  · have hb5 : (c == 95) = false := by simpa using h5
    by_cases h1 : 97 ≤ c
    · by_cases h2 : c ≤ 122
      · go_enter Tryz.func128, Tryz.ntmps128
        go_wp2
        go_ret
        exact ⟨ret_bool (by rw [HC.out, Bool.eq_iff_iff]; simp <;> omega), rfl⟩
      · have h3 : 65 ≤ c := by omega
        have h4 : ¬ c ≤ 90 := by omega
        go_enter Tryz.func128, Tryz.ntmps128
        go_wp2
        go_ret
        exact ⟨ret_bool (by rw [HC.out, Bool.eq_iff_iff]; simp <;> omega), rfl⟩
    · by_cases h3 : 65 ≤ c
      · by_cases h4 : c ≤ 90
        · go_enter Tryz.func128, Tryz.ntmps128
          go_wp2
          go_ret
          exact ⟨ret_bool (by rw [HC.out, Bool.eq_iff_iff]; simp <;> omega), rfl⟩
        · go_enter Tryz.func128, Tryz.ntmps128
          go_wp2
          go_ret
          exact ⟨ret_bool (by rw [HC.out, Bool.eq_iff_iff]; simp <;> omega), rfl⟩
      · go_enter Tryz.func128, Tryz.ntmps128
        go_wp2
        go_ret
        exact ⟨ret_bool (by rw [HC.out, Bool.eq_iff_iff]; simp <;> omega), rfl⟩

def RGapGives (b : Nat) (T l : List UInt8) (w : World) (e : Ending) (w' : World) : Prop := e = .returned (.tuple #[]) ∧ RRd w' b T (gap l) ∧ Only b w w'
set_option maxRecDepth 100000 in
set_option maxHeartbeats 1600000 in
theorem rgap_any (b : Nat) (T l : List UInt8) (w : World) (h : RRd w b T l) :
    Calls Tryz.prog 29 #[.pointer (some ⟨b, 0, none⟩)] w (RGapGives b T l w) := by
  have HR := Lib.hid h
  have HPk := Lib.hid (fun l' W hW => rpeek_any b T l' W hW)
  obtain ⟨Q, hQ⟩ : ∃ Q, RGapGives b T l w = Q := ⟨_, rfl⟩
  rw [hQ]
  have HQ := Lib.hid hQ
  clear h hQ
  go_enter Tryz.func29, Tryz.ntmps29
  go_wp2_with fail
  refine (HPk.out l _ HR.out).mono ?_
  rintro e w2 ⟨rfl, hr2, ho2⟩
  have HR2 := Lib.hid hr2
  have HO2 := Lib.hid ho2
  clear hr2 ho2 HR
  go_wp2_with fail
  go_loopw [2] (fun s2 wr => ∃ l1, s2 = .int .u8 ((headB l1).toNat : Int) ∧ Hid (skipJ l1 = l1) ∧ Hid (RRd wr b T l1) ∧ Hid (gap l1 = gap l) ∧ Hid (Only b w wr)) (fun _ wr => T.length - posOf wr b)
  case atStart => exact ⟨skipJ l, rfl, Lib.hid (skipJ_skipJ l), HR2, Lib.hid (gap_skipJ l), HO2⟩
  case round =>
    clear HR2 HO2
    obtain ⟨l1, rfl, HL, HR, HG, HO⟩ := hrel
    cases l1 with
    | nil =>
      rw [show ((headB []).toNat : Int) = 0 from rfl]
      go_wp2_with fail
      go_end0
      rw [← HQ.out]
      exact ⟨rfl, by rw [← HG.out]; exact HR.out, HO.out⟩
    | cons c r =>
      rw [show headB (c :: r) = c from rfl]
      cases hbl : blB c with
      | false =>
        have h1 : ((c.toNat : Int) == 32) = false := by
          rw [beq_eq_false_iff_ne]; intro e; rw [show c = 32 from UInt8.toNat_inj.1 (by show c.toNat = 32; omega)] at hbl; exact absurd hbl (by decide)
        have h2 : ((c.toNat : Int) == 9) = false := by
          rw [beq_eq_false_iff_ne]; intro e; rw [show c = 9 from UInt8.toNat_inj.1 (by show c.toNat = 9; omega)] at hbl; exact absurd hbl (by decide)
        have h3 : ((c.toNat : Int) == 10) = false := by
          rw [beq_eq_false_iff_ne]; intro e; rw [show c = 10 from UInt8.toNat_inj.1 (by show c.toNat = 10; omega)] at hbl; exact absurd hbl (by decide)
        have HS := Lib.hid ((gap_stop HL.out hbl).symm.trans HG.out)
        clear hbl
        go_wp2_with fail
        go_end0
        rw [← HQ.out]
        exact ⟨rfl, by rw [← HS.out]; exact HR.out, HO.out⟩
      | true =>
        obtain ⟨p, j, hp, hd, c0, c1, c5, cf, hbx⟩ := HR.out.cells
        have hlen : (c :: r).length = r.length + 1 := rfl
        rw [hlen] at hp
        have hT := HR.out.len
        have e1 : IntKind.i64.wrap ((p : Int) + 1) = (p : Int) + 1 := IntWalk.i64_in _ (by omega)
        have HF := Lib.hid (HR.out.store (q := p + 1) (l' := r) (by omega) (by rw [← List.drop_drop, hd]; rfl))
        have HG2 := Lib.hid ((gap_blank HL.out hbl).symm.trans HG.out)
        have HOs := Lib.hid (HO.out.setCell (i := 1) (.int .i64 ((p + 1 : Nat) : Int)))
        have HPos := Lib.hid HR.out.pos
        rw [show ((p + 1 : Nat) : Int) = (p : Int) + 1 by simp] at HF HOs
        have hcc : c = 32 ∨ c = 9 ∨ c = 10 := by simpa [blB, or_assoc] using hbl
        clear hbx hd hbl c0 c5
        rcases hcc with rfl | rfl | rfl
        all_goals
          go_wp2_with fail
          refine (HPk.out r _ HF.out).mono ?_
          rintro e w3 ⟨rfl, hr3, ho3⟩
          have HR3 := Lib.hid hr3
          have HO3 := Lib.hid (HOs.out.trans ho3)
          clear hr3 ho3
          go_wp2_with fail
          refine ⟨⟨skipJ r, rfl, Lib.hid (skipJ_skipJ r), HR3, Lib.hid ((gap_skipJ r).trans HG2.out), HO3⟩, ?_⟩
          have h1 := HPos.out
          have h2 := HR3.out.pos
          have h3 := skipJ_len r
          rw [hlen] at h1
          omega

theorem tokens_any (w : World) : Calls Tryz.prog 160 #[] w fun e w' => e = .returned (.slice (some ⟨w.heap.size, 0, none⟩) rsigns.length rsigns.length) ∧ Below w.heap.size w w' ∧ w.heap.size < w'.heap.size ∧ TX w' w.heap.size 0 rsigns := by
  go_enter Tryz.func160, Tryz.ntmps160
  go_wp2_with fail
  go_ret
  exact ⟨rfl, (Below.refl _ w).alloc (Nat.le_refl _) _, by simp, TX.new w _ _ _ (by simp [rsigns, toB])⟩
theorem rsigns_fine : ∀ t ∈ rsigns, (0 : UInt8) ∉ t ∧ t.length ≤ 100 := by decide +kernel

def RPeekSign (b : Nat) (T l : List UInt8) (w : World) (e : Ending) (w' : World) : Prop := e = .returned (.string (toB (sg l))) ∧ RRd w' b T (gap l) ∧ Only b w w'
set_option maxRecDepth 100000 in
set_option maxHeartbeats 1600000 in
theorem apeek_any (b : Nat) (T l : List UInt8) (w : World) (h : RRd w b T l) :
    Calls Tryz.prog 106 #[.pointer (some ⟨b, 0, none⟩)] w (RPeekSign b T l w) := by
  have HR := Lib.hid h
  have HGt := Lib.hid (fun l' s W hW hs hz => rgot_any b T l' s W hW hs hz)
  obtain ⟨Q, hQ⟩ : ∃ Q, RPeekSign b T l w = Q := ⟨_, rfl⟩
  rw [hQ]
  have HQ := Lib.hid hQ
  clear h hQ
  go_enter Tryz.func106, Tryz.ntmps106
  go_wp2_with fail
  refine (rgap_any b T l _ HR.out).mono ?_
  rintro e w2 ⟨rfl, hr2, ho2⟩
  obtain ⟨p0, j0, hp0, hd0, c0, c1, c5, cf, hbx⟩ := hr2.cells
  have HD := Lib.hid (show p0 + (gap l).length = T.length ∧ T.drop p0 = gap l from ⟨hp0, hd0⟩)
  have HR2 := Lib.hid hr2
  have HO2 := Lib.hid ho2
  clear hr2 ho2 HR hbx hd0 hp0 c0 c5
  go_wp2_with fail
  refine (tokens_any _).mono ?_
  rintro e w3 ⟨rfl, hb3, hl3, ht3⟩
  have HR3 := Lib.hid (HR2.out.keep hb3)
  have HO3 := Lib.hid (HO2.out.trans (Only.of (b := b) hb3 (Nat.le_refl _)))
  have HT3 := Lib.hid ht3
  have hgb : w2.heap.size ≠ b := by have := HR2.out.lt; omega
  clear HR2 HO2 hb3 ht3 c1 cf
  generalize w2.heap.size = g at *
  have hN : rsigns.length = 40 := rfl
  have hNi : (rsigns.length : Int) = 40 := rfl
  go_wp2_with fail
  go_loopw [14] (fun s14 wr => ∃ k : Nat, s14 = .int .i64 (k : Int) ∧ k ≤ 40 ∧ Hid (RRd wr b T (gap l)) ∧ Hid (TX wr g 0 rsigns) ∧ g < wr.heap.size ∧ Hid (((rsigns.drop k).find? fun s => (takeS s (gap l)).isSome) = rsigns.find? fun s => (takeS s (gap l)).isSome) ∧ Hid (Only b w wr)) (fun s14 _ => 40 - (intOf s14).toNat)
  case atStart => exact ⟨0, rfl, by omega, HR3, HT3, hl3, Lib.hid rfl, HO3⟩
  case round =>
    clear HR3 HO3 HT3 hl3
    obtain ⟨k, rfl, hk, HR4, HT4, hg4, HF4, HO4⟩ := hrel
    by_cases hlt : k < 40
    · have hlt' : k < rsigns.length := by rw [hN]; exact hlt
      have cl := HT4.out k hlt'
      have hdr : rsigns.drop k = rsigns[k] :: rsigns.drop (k + 1) := List.drop_eq_getElem_cons hlt'
      have hfine := rsigns_fine _ (List.getElem_mem hlt')
      have HG5 := Lib.hid (HGt.out (gap l) rsigns[k] wr HR4.out hfine.2 hfine.1)
      rw [hdr] at HF4
      rw [Nat.zero_add] at cl
      clear hfine hdr
      generalize rsigns[k] = t at *
      go_wp2_with fail
      refine HG5.out.mono ?_
      rintro e w5 ⟨rfl, hr5, ho5⟩
      have HT5 : Hid (TX w5 g 0 rsigns) := Lib.hid (fun j hj => (World.cell?_of_block (a := ⟨g, 0 + j, none⟩) (ho5.block g hg4 hgb)).trans (HT4.out j hj))
      have hg5 : g < w5.heap.size := Nat.lt_of_lt_of_le hg4 ho5.size
      have HO5 := Lib.hid (HO4.out.trans ho5)
      clear ho5 HT4 HO4 HG5 cl
      cases ht : takeS t (gap l) with
      | some r =>
        rw [ht] at hr5
        have HE := Lib.hid (show sg l = t by
          rw [sg_ref, ← HF4.out]
          simp [ht])
        obtain ⟨p, j, hp, hd, c0, c1, c5, cf, hbx⟩ := hr5.cells
        have HF := Lib.hid (hr5.store HD.out.1 HD.out.2)
        have HG := Lib.hid (HO5.out.setCell (i := 1) (.int .i64 (p0 : Int)))
        clear hbx hd hp hr5 ht HT5
        rw [show (some r : Option (List UInt8)).isSome = true from rfl]
        go_wp2_with fail
        rw [← HQ.out]
        exact ⟨by rw [HE.out]; rfl, HF.out, HG.out⟩
      | none =>
        rw [ht] at hr5
        have HR5 := Lib.hid hr5
        have HF5 := Lib.hid (show ((rsigns.drop (k + 1)).find? fun s => (takeS s (gap l)).isSome) = rsigns.find? fun s => (takeS s (gap l)).isSome by
          rw [← HF4.out]
          simp [ht])
        clear hr5 ht HF4
        rw [show (none : Option (List UInt8)).isSome = false from rfl]
        go_wp2_with fail
        exact ⟨⟨k + 1, by go_num, by omega, HR5, HT5, hg5, HF5, HO5⟩, by simp [intOf]; omega⟩
    · obtain rfl : k = 40 := by omega
      have HE := Lib.hid (show sg l = [] by
        rw [sg_ref, ← HF4.out]
        rfl)
      go_wp2_with fail
      rw [← HQ.out]
      exact ⟨by rw [HE.out]; rfl, HR4.out, HO4.out⟩

end Go.Proofs.YtiigclkebnmopaaGreatDoor

namespace Go.Proofs.YtiigclkebnmopaaGreatDoor
open Go.RowKit Go.Shelf

/-- a sign is taken, if it is next -/
def RGot (b : Nat) (T l t : List UInt8) (w : World) (e : Ending) (w' : World) : Prop :=
  ((sg l = t ∧ e = .returned (.bool true) ∧ RRd w' b T (aft t l)) ∨ (sg l ≠ t ∧ e = .returned (.bool false) ∧ RRd w' b T (gap l))) ∧ Only b w w'
set_option maxRecDepth 100000 in
set_option maxHeartbeats 1600000 in
theorem agot_any (b : Nat) (T l t : List UInt8) (w : World) (h : RRd w b T l) (ht : t ∈ signs) :
    Calls Tryz.prog 63 #[.pointer (some ⟨b, 0, none⟩), .string (toB t)] w (RGot b T l t w) := by
  have HP := Lib.hid (apeek_any b T l w h)
  have hfine := rsigns_fine t ((signs_same t).1 ht)
  have HGt := Lib.hid (fun W hW => rgot_any b T (gap l) t W hW hfine.2 hfine.1)
  have htn : t ≠ [] := fun e => absurd ht (by rw [e]; decide)
  obtain ⟨Q, hQ⟩ : ∃ Q, RGot b T l t w = Q := ⟨_, rfl⟩
  rw [hQ]
  have HQ := Lib.hid hQ
  clear h hQ hfine ht
  by_cases hs : sg l = t
  · have hbe : ((toB (sg l)).toList == (toB t).toList) = true := by rw [toB_eq, hs]; simp
    have HA := Lib.hid (show takeS t (gap l) = some (aft t l) by have := (sg_some (l := l) (by rw [hs]; exact htn)).2; rw [hs] at this; exact this)
    have HS := Lib.hid hs
    clear hs htn
    go_enter Tryz.func63, Tryz.ntmps63
    go_wp2_with fail
    refine HP.out.mono ?_
    rintro e w2 ⟨rfl, hr2, ho2⟩
    have HR2 := Lib.hid hr2
    have HO2 := Lib.hid ho2
    clear hr2 ho2 HP
    go_wp2_with fail
    refine (HGt.out _ HR2.out).mono ?_
    rintro e w3 ⟨rfl, hr3, ho3⟩
    rw [HA.out] at hr3 ⊢
    have HR3 := Lib.hid hr3
    have HO3 := Lib.hid (HO2.out.trans ho3)
    clear hr3 ho3
    rw [show (some (aft t l) : Option (List UInt8)).isSome = true from rfl]
    go_wp2_with fail
    rw [← HQ.out]
    exact ⟨.inl ⟨HS.out, rfl, HR3.out⟩, HO3.out⟩
  · have hbe : ((toB (sg l)).toList == (toB t).toList) = false := by rw [toB_eq]; simpa using hs
    have HS := Lib.hid hs
    clear hs htn
    go_enter Tryz.func63, Tryz.ntmps63
    go_wp2_with fail
    refine HP.out.mono ?_
    rintro e w2 ⟨rfl, hr2, ho2⟩
    have HR2 := Lib.hid hr2
    have HO2 := Lib.hid ho2
    clear hr2 ho2 HP
    go_wp2_with fail
    rw [← HQ.out]
    exact ⟨.inr ⟨HS.out, rfl, HR2.out⟩, HO2.out⟩

/-- what a function of the reference that reads gives -/
def RPG (b : Nat) (T : List UInt8) (o : Out) (w : World) (e : Ending) (w' : World) : Prop := match o with
  | .ok x l1 => ∃ v, e = .returned v ∧ ExV (Nw w) w' v x ∧ RRd w' b T l1 ∧ Only b w w'
  | .stuck _ => False
  | .bad l1 => e = rpan (plc T l1) 1 ∧ Only b w w'
  | .more => e = rpan T.length 27 ∧ Only b w w'
  | .none => False
/-- wrong at the next token -/
def RBad (b : Nat) (T l : List UInt8) (w : World) (e : Ending) (w' : World) : Prop := RPG b T (badAt l) w e w'
theorem badAt_cases (l : List UInt8) : badAt l = .more ∨ ∃ g, badAt l = .bad g := by unfold badAt; split <;> simp
set_option maxRecDepth 100000 in
set_option maxHeartbeats 1600000 in
theorem abad_any (b : Nat) (T l : List UInt8) (w : World) (h : RRd w b T l) :
    Calls Tryz.prog 107 #[.pointer (some ⟨b, 0, none⟩)] w fun e w' => (if gap l = [] then e = rpan T.length 27 else e = rpan (plc T (gap l)) 1) ∧ Only b w w' := by
  have HP := Lib.hid (rgap_any b T l w h)
  obtain ⟨Q, hQ⟩ : ∃ Q, (fun (e : Ending) (w' : World) => (if gap l = [] then e = rpan T.length 27 else e = rpan (plc T (gap l)) 1) ∧ Only b w w') = Q := ⟨_, rfl⟩
  rw [hQ]
  have HQ := Lib.hid hQ
  clear h hQ
  go_enter Tryz.func107, Tryz.ntmps107
  go_wp2_with fail
  refine HP.out.mono ?_
  rintro e w2 ⟨rfl, hr2, ho2⟩
  have HR2 := Lib.hid hr2
  have HO2 := Lib.hid ho2
  clear hr2 ho2 HP
  go_wp2_with fail
  refine (rpeek_any b T (gap l) _ HR2.out).mono ?_
  rintro e w3 ⟨rfl, hr3, ho3⟩
  rw [skipJ_gap] at hr3 ⊢
  have HR3 := Lib.hid hr3
  have HO3 := Lib.hid (HO2.out.trans ho3)
  clear hr3 ho3 HR2 HO2
  cases hg : gap l with
  | nil =>
    have HG := Lib.hid hg
    rw [show ((headB []).toNat : Int) = 0 from rfl]
    clear hg
    go_wp2_with fail
    refine (rmore_any b T _ _ HR3.out).mono ?_
    rintro e w4 ⟨rfl, rfl⟩
    unfold rpan
    go_wp2_with fail
    rw [← HQ.out]
    exact ⟨rfl, by rw [if_pos HG.out]; rfl, HO3.out⟩
  | cons c r =>
    have HG := Lib.hid hg
    rw [hg] at HR3
    have hc0 : c ≠ 0 := fun e => HR3.out.sub (by rw [e]; exact List.mem_cons_self)
    have hh : ((c.toNat : Int) == 0) = false := by
      rw [beq_eq_false_iff_ne]
      intro e
      exact hc0 (UInt8.toNat_inj.1 (by show c.toNat = 0; omega))
    obtain ⟨p, j, hp, hd, k0, k1, k5, kf, kbx⟩ := HR3.out.cells
    have HPl := Lib.hid (show plc T (gap l) = (p : Int) by unfold plc; rw [hg]; omega)
    rw [show headB (c :: r) = c from rfl]
    clear hg kbx hd hp k0 k5 hc0
    go_wp2_with fail
    refine (rfail_any _ _ _).mono ?_
    rintro e w4 ⟨rfl, rfl⟩
    unfold rpan
    go_wp2_with fail
    rw [← HQ.out]
    exact ⟨rfl, by rw [if_neg (by rw [HG.out]; simp), HPl.out]; rfl, HO3.out⟩

end Go.Proofs.YtiigclkebnmopaaGreatDoor

namespace Go.Proofs.YtiigclkebnmopaaGreatDoor
open Go.RowKit Go.Shelf

/-- the bytes of a kind are read -/
def RRunGives (q : UInt8 → Bool) (b : Nat) (T l : List UInt8) (w : World) (e : Ending) (w' : World) : Prop := e = .returned (.string (toB (run q l).1)) ∧ RRd w' b T (run q l).2 ∧ Only b w w'
theorem RRd.le {w : World} {b : Nat} {T l : List UInt8} (h : RRd w b T l) : l.length ≤ 16384 := by
  obtain ⟨p, _, hp, _⟩ := h.cells
  have := h.len
  omega
theorem isL_zero : isL 0 = false := by decide
theorem isD_zero : isD 0 = false := by decide

set_option maxRecDepth 100000 in
set_option maxHeartbeats 3200000 in
theorem wordRun_any (b : Nat) (T l : List UInt8) (w : World) (h : RRd w b T l) :
    Calls Tryz.prog 230 #[.pointer (some ⟨b, 0, none⟩)] w (RRunGives isW b T l w) := by
  obtain ⟨i1, hi1, hy0, hy1, hy2⟩ := info_parts byteInfo
  have HPk := Lib.hid (fun l' W hW => rpeek_any b T l' W hW)
  have HR := Lib.hid h
  have hlt := h.lt
  have HLn := Lib.hid (show (run isW l).1.length ≤ 16384 by have h1 := run_len isW l; have h2 := h.le; omega)
  obtain ⟨Q, hQ⟩ : ∃ Q, RRunGives isW b T l w = Q := ⟨_, rfl⟩
  rw [hQ]
  have HQ := Lib.hid hQ
  clear h hQ
  go_enter Tryz.func230, Tryz.ntmps230
  go_wp2_with fail
  refine (HPk.out l _ HR.out).mono ?_
  rintro e w2 ⟨rfl, hr2, ho2⟩
  have HR2 := Lib.hid hr2
  have HO2 := Lib.hid ho2
  clear hr2 ho2 HR
  go_wp2_with fail
  go_loopw [3, 4] (fun s3 s4 wr => ∃ (v : Value) (acc l1 : List UInt8), v = s3 ∧ s4 = .int .u8 ((headB l1).toNat : Int) ∧ Hid (skipJ l1 = l1) ∧ Hid (RRd wr b T l1) ∧ Hid (wr.ownsRow w.heap.size 5 1 v acc.length (bytesV acc)) ∧ Hid (acc ++ (run isW l1).1 = (run isW l).1) ∧ Hid ((run isW l1).2 = (run isW l).2) ∧ Hid (Only b w wr)) (fun _ _ wr => T.length - posOf wr b)
  case atStart => exact ⟨_, [], skipJ l, rfl, rfl, Lib.hid (skipJ_skipJ l), HR2, Lib.hid (World.ownsRow_nil _ _ _ _), Lib.hid (by rw [run_skipJ]; rfl), Lib.hid (by rw [run_skipJ]), HO2⟩
  case round =>
    clear HR2 HO2
    obtain ⟨v, acc, l1, rfl, rfl, HL1, HR1, HV, HA1, HA2, HO1⟩ := hrel
    obtain ⟨A0, cp0, hv0⟩ := own_form HV.out
    subst hv0
    cases l1 with
    | nil =>
      have HE1 := Lib.hid (show acc = (run isW l).1 by have h := HA1.out; simpa [run] using h)
      have HE2 := Lib.hid (show [] = (run isW l).2 by have h := HA2.out; simpa [run] using h)
      have hcv := row_string HV.out
      go_wp2_with fail
      refine (rletter_any 0 _).mono ?_
      rintro e w3 ⟨rfl, rfl⟩
      rw [isL_zero]
      go_wp2_with fail
      refine (rdigit_any 0 _).mono ?_
      rintro e w3 ⟨rfl, rfl⟩
      rw [isD_zero]
      go_wp2_with fail
      rw [← HQ.out]
      exact ⟨by rw [← HE1.out]; rfl, by rw [← HE2.out]; exact HR1.out, HO1.out⟩
    | cons c r =>
      have HPos := Lib.hid HR1.out.pos
      rw [show headB (c :: r) = c from rfl]
      cases hw : isW c with
      | false =>
        have hr := run_cons (q := isW) HL1.out
        rw [hw] at hr
        have HE1 := Lib.hid (show acc = (run isW l).1 by have h := HA1.out; rw [hr] at h; simpa using h)
        have HE2 := Lib.hid (show c :: r = (run isW l).2 by have h := HA2.out; rw [hr] at h; simpa using h)
        have hcv := row_string HV.out
        have HLf := Lib.hid (show isL c = false by unfold isW at hw; simp at hw; exact hw.1)
        have HDf := Lib.hid (show isD c = false by unfold isW at hw; simp at hw; exact hw.2)
        clear hr hw
        go_wp2_with fail
        refine (rletter_any c _).mono ?_
        rintro e w3 ⟨rfl, rfl⟩
        rw [HLf.out]
        go_wp2_with fail
        refine (rdigit_any c _).mono ?_
        rintro e w3 ⟨rfl, rfl⟩
        rw [HDf.out]
        go_wp2_with fail
        rw [← HQ.out]
        exact ⟨by rw [← HE1.out]; rfl, by rw [← HE2.out]; exact HR1.out, HO1.out⟩
      | true =>
       cases hLc : isL c with
       | true =>
        have HLc := Lib.hid hLc
        have hr := run_cons (q := isW) HL1.out
        rw [hw, if_pos rfl] at hr
        have HA1c := Lib.hid (show acc ++ ([c] ++ (run isW r).1) = (run isW l).1 by have h := HA1.out; rw [hr] at h; exact h)
        have HA2c := Lib.hid (show (run isW r).2 = (run isW l).2 by have h := HA2.out; rw [hr] at h; exact h)
        have hacc : acc.length ≤ 16384 := by have h := congrArg List.length HA1c.out; simp at h; have h2 := HLn.out; omega
        have HVa := Lib.hid (HV.out.alloc (.cells #[.int .u8 (c.toNat : Int)] 5))
        have HN := Lib.hid (new_one wr (.int .u8 (c.toNat : Int)) 5)
        have hba := (Below.refl wr.heap.size wr).alloc (Nat.le_refl _) (.cells #[.int .u8 (c.toNat : Int)] 5)
        have HRa := Lib.hid (HR1.out.keep hba)
        have HOa := Lib.hid (HO1.out.trans (Only.of (b := b) hba (Nat.le_refl _)))
        have hzz := HO1.out.size
        clear hba hr hw
        clear hLc
        go_wp2_with fail
        refine (rletter_any c _).mono ?_
        rintro e w3 ⟨rfl, rfl⟩
        rw [HLc.out]
        go_wp2_with (at_builtin; refine wpList_append_own _ rfl _ _ 82 rfl w.heap.size 5 i1 (.int .u8 0) 1 1 Tryz.underlying82 hi1 hy0 hy1 hy2 rfl (by decide) (.slice A0 acc.length cp0) acc.length _ rfl HVa.out ⟨wr.heap.size, 0, none⟩ 1 1 [.int .u8 (c.toNat : Int)] rfl rfl HN.out (fun z hz => by simp at hz; subst hz; rfl) ?c3 ?c4 ?c5 ?_)
        case c3 => unfold maxLen; omega
        case c4 => omega
        case c5 => simp; omega
        intro v6 w6 hown6 hg6 _
        have hgr : ∀ q, (Value.slice A0 acc.length cp0).ownBlock = some q → w.heap.size ≤ q := fun q hq => (HVa.out.lt q hq).1
        have HR6 := Lib.hid (HRa.out.grown hg6 hgr hlt)
        have HO6 := Lib.hid (HOa.out.grown hg6 hgr)
        have HV6 : Hid (w6.ownsRow w.heap.size 5 1 v6 (acc ++ [c]).length (bytesV (acc ++ [c]))) := Lib.hid (by
          rw [← bytes_snoc, List.length_append]
          exact hown6)
        clear hown6 hg6 hgr HV HR1 HO1 HVa HN HRa HOa
        obtain ⟨p, j, hp, hd, c0, c1, c5, cf, hbx⟩ := HR6.out.cells
        have hlen : (c :: r).length = r.length + 1 := rfl
        rw [hlen] at hp
        have hT := HR6.out.len
        have e1 : IntKind.i64.wrap ((p : Int) + 1) = (p : Int) + 1 := IntWalk.i64_in _ (by omega)
        have HF := Lib.hid (HR6.out.store (q := p + 1) (l' := r) (by omega) (by rw [← List.drop_drop, hd]; rfl))
        have HOs := Lib.hid (HO6.out.setCell (i := 1) (.int .i64 ((p + 1 : Nat) : Int)))
        have HVs := Lib.hid (own_only HV6.out ((Only.refl b w6).setCell (i := 1) (.int .i64 ((p + 1 : Nat) : Int))) hlt)
        rw [show ((p + 1 : Nat) : Int) = (p : Int) + 1 by simp] at HF HOs HVs
        clear hbx hd c0 c5 HV6 HO6
        go_wp2_with fail
        refine (HPk.out r _ HF.out).mono ?_
        rintro e w7 ⟨rfl, hr7, ho7⟩
        have HR7 := Lib.hid hr7
        have HO7 := Lib.hid (HOs.out.trans ho7)
        have HV7 := Lib.hid (own_only HVs.out ho7 hlt)
        clear hr7 ho7
        go_wp2_with fail
        refine ⟨⟨v6, acc ++ [c], skipJ r, rfl, rfl, Lib.hid (skipJ_skipJ r), HR7, HV7, Lib.hid (by rw [run_skipJ, List.append_assoc]; exact HA1c.out), Lib.hid (by rw [run_skipJ]; exact HA2c.out), HO7⟩, ?_⟩
        have h1 := HPos.out
        have h2 := HR7.out.pos
        have h3 := skipJ_len r
        rw [hlen] at h1
        omega
       | false =>
        have HLc := Lib.hid hLc
        have HDc := Lib.hid (show isD c = true by unfold isW at hw; rw [hLc] at hw; simpa using hw)
        have hr := run_cons (q := isW) HL1.out
        rw [hw, if_pos rfl] at hr
        have HA1c := Lib.hid (show acc ++ ([c] ++ (run isW r).1) = (run isW l).1 by have h := HA1.out; rw [hr] at h; exact h)
        have HA2c := Lib.hid (show (run isW r).2 = (run isW l).2 by have h := HA2.out; rw [hr] at h; exact h)
        have hacc : acc.length ≤ 16384 := by have h := congrArg List.length HA1c.out; simp at h; have h2 := HLn.out; omega
        have HVa := Lib.hid (HV.out.alloc (.cells #[.int .u8 (c.toNat : Int)] 5))
        have HN := Lib.hid (new_one wr (.int .u8 (c.toNat : Int)) 5)
        have hba := (Below.refl wr.heap.size wr).alloc (Nat.le_refl _) (.cells #[.int .u8 (c.toNat : Int)] 5)
        have HRa := Lib.hid (HR1.out.keep hba)
        have HOa := Lib.hid (HO1.out.trans (Only.of (b := b) hba (Nat.le_refl _)))
        have hzz := HO1.out.size
        clear hba hr hw
        clear hLc
        go_wp2_with fail
        refine (rletter_any c _).mono ?_
        rintro e w3 ⟨rfl, rfl⟩
        rw [HLc.out]
        go_wp2_with fail
        refine (rdigit_any c _).mono ?_
        rintro e w3 ⟨rfl, rfl⟩
        rw [HDc.out]
        go_wp2_with (at_builtin; refine wpList_append_own _ rfl _ _ 82 rfl w.heap.size 5 i1 (.int .u8 0) 1 1 Tryz.underlying82 hi1 hy0 hy1 hy2 rfl (by decide) (.slice A0 acc.length cp0) acc.length _ rfl HVa.out ⟨wr.heap.size, 0, none⟩ 1 1 [.int .u8 (c.toNat : Int)] rfl rfl HN.out (fun z hz => by simp at hz; subst hz; rfl) ?c3 ?c4 ?c5 ?_)
        case c3 => unfold maxLen; omega
        case c4 => omega
        case c5 => simp; omega
        intro v6 w6 hown6 hg6 _
        have hgr : ∀ q, (Value.slice A0 acc.length cp0).ownBlock = some q → w.heap.size ≤ q := fun q hq => (HVa.out.lt q hq).1
        have HR6 := Lib.hid (HRa.out.grown hg6 hgr hlt)
        have HO6 := Lib.hid (HOa.out.grown hg6 hgr)
        have HV6 : Hid (w6.ownsRow w.heap.size 5 1 v6 (acc ++ [c]).length (bytesV (acc ++ [c]))) := Lib.hid (by
          rw [← bytes_snoc, List.length_append]
          exact hown6)
        clear hown6 hg6 hgr HV HR1 HO1 HVa HN HRa HOa
        obtain ⟨p, j, hp, hd, c0, c1, c5, cf, hbx⟩ := HR6.out.cells
        have hlen : (c :: r).length = r.length + 1 := rfl
        rw [hlen] at hp
        have hT := HR6.out.len
        have e1 : IntKind.i64.wrap ((p : Int) + 1) = (p : Int) + 1 := IntWalk.i64_in _ (by omega)
        have HF := Lib.hid (HR6.out.store (q := p + 1) (l' := r) (by omega) (by rw [← List.drop_drop, hd]; rfl))
        have HOs := Lib.hid (HO6.out.setCell (i := 1) (.int .i64 ((p + 1 : Nat) : Int)))
        have HVs := Lib.hid (own_only HV6.out ((Only.refl b w6).setCell (i := 1) (.int .i64 ((p + 1 : Nat) : Int))) hlt)
        rw [show ((p + 1 : Nat) : Int) = (p : Int) + 1 by simp] at HF HOs HVs
        clear hbx hd c0 c5 HV6 HO6
        go_wp2_with fail
        refine (HPk.out r _ HF.out).mono ?_
        rintro e w7 ⟨rfl, hr7, ho7⟩
        have HR7 := Lib.hid hr7
        have HO7 := Lib.hid (HOs.out.trans ho7)
        have HV7 := Lib.hid (own_only HVs.out ho7 hlt)
        clear hr7 ho7
        go_wp2_with fail
        refine ⟨⟨v6, acc ++ [c], skipJ r, rfl, rfl, Lib.hid (skipJ_skipJ r), HR7, HV7, Lib.hid (by rw [run_skipJ, List.append_assoc]; exact HA1c.out), Lib.hid (by rw [run_skipJ]; exact HA2c.out), HO7⟩, ?_⟩
        have h1 := HPos.out
        have h2 := HR7.out.pos
        have h3 := skipJ_len r
        rw [hlen] at h1
        omega

set_option maxRecDepth 100000 in
set_option maxHeartbeats 3200000 in
theorem digits_any (b : Nat) (T l : List UInt8) (w : World) (h : RRd w b T l) :
    Calls Tryz.prog 239 #[.pointer (some ⟨b, 0, none⟩)] w (RRunGives isD b T l w) := by
  obtain ⟨i1, hi1, hy0, hy1, hy2⟩ := info_parts byteInfo
  have HPk := Lib.hid (fun l' W hW => rpeek_any b T l' W hW)
  have HR := Lib.hid h
  have hlt := h.lt
  have HLn := Lib.hid (show (run isD l).1.length ≤ 16384 by have h1 := run_len isD l; have h2 := h.le; omega)
  obtain ⟨Q, hQ⟩ : ∃ Q, RRunGives isD b T l w = Q := ⟨_, rfl⟩
  rw [hQ]
  have HQ := Lib.hid hQ
  clear h hQ
  go_enter Tryz.func239, Tryz.ntmps239
  go_wp2_with fail
  refine (HPk.out l _ HR.out).mono ?_
  rintro e w2 ⟨rfl, hr2, ho2⟩
  have HR2 := Lib.hid hr2
  have HO2 := Lib.hid ho2
  clear hr2 ho2 HR
  go_wp2_with fail
  go_loopw [3, 4] (fun s3 s4 wr => ∃ (v : Value) (acc l1 : List UInt8), v = s3 ∧ s4 = .int .u8 ((headB l1).toNat : Int) ∧ Hid (skipJ l1 = l1) ∧ Hid (RRd wr b T l1) ∧ Hid (wr.ownsRow w.heap.size 5 1 v acc.length (bytesV acc)) ∧ Hid (acc ++ (run isD l1).1 = (run isD l).1) ∧ Hid ((run isD l1).2 = (run isD l).2) ∧ Hid (Only b w wr)) (fun _ _ wr => T.length - posOf wr b)
  case atStart => exact ⟨_, [], skipJ l, rfl, rfl, Lib.hid (skipJ_skipJ l), HR2, Lib.hid (World.ownsRow_nil _ _ _ _), Lib.hid (by rw [run_skipJ]; rfl), Lib.hid (by rw [run_skipJ]), HO2⟩
  case round =>
    clear HR2 HO2
    obtain ⟨v, acc, l1, rfl, rfl, HL1, HR1, HV, HA1, HA2, HO1⟩ := hrel
    obtain ⟨A0, cp0, hv0⟩ := own_form HV.out
    subst hv0
    cases l1 with
    | nil =>
      have HE1 := Lib.hid (show acc = (run isD l).1 by have h := HA1.out; simpa [run] using h)
      have HE2 := Lib.hid (show [] = (run isD l).2 by have h := HA2.out; simpa [run] using h)
      have hcv := row_string HV.out
      go_wp2_with fail
      refine (rdigit_any 0 _).mono ?_
      rintro e w3 ⟨rfl, rfl⟩
      rw [isD_zero]
      go_wp2_with fail
      rw [← HQ.out]
      exact ⟨by rw [← HE1.out]; rfl, by rw [← HE2.out]; exact HR1.out, HO1.out⟩
    | cons c r =>
      have HPos := Lib.hid HR1.out.pos
      rw [show headB (c :: r) = c from rfl]
      cases hw : isD c with
      | false =>
        have hr := run_cons (q := isD) HL1.out
        rw [hw] at hr
        have HE1 := Lib.hid (show acc = (run isD l).1 by have h := HA1.out; rw [hr] at h; simpa using h)
        have HE2 := Lib.hid (show c :: r = (run isD l).2 by have h := HA2.out; rw [hr] at h; simpa using h)
        have hcv := row_string HV.out
        have HDf := Lib.hid hw
        clear hr hw
        go_wp2_with fail
        refine (rdigit_any c _).mono ?_
        rintro e w3 ⟨rfl, rfl⟩
        rw [HDf.out]
        go_wp2_with fail
        rw [← HQ.out]
        exact ⟨by rw [← HE1.out]; rfl, by rw [← HE2.out]; exact HR1.out, HO1.out⟩
      | true =>
        have HDc := Lib.hid hw
        have hr := run_cons (q := isD) HL1.out
        rw [hw, if_pos rfl] at hr
        have HA1c := Lib.hid (show acc ++ ([c] ++ (run isD r).1) = (run isD l).1 by have h := HA1.out; rw [hr] at h; exact h)
        have HA2c := Lib.hid (show (run isD r).2 = (run isD l).2 by have h := HA2.out; rw [hr] at h; exact h)
        have hacc : acc.length ≤ 16384 := by have h := congrArg List.length HA1c.out; simp at h; have h2 := HLn.out; omega
        have HVa := Lib.hid (HV.out.alloc (.cells #[.int .u8 (c.toNat : Int)] 5))
        have HN := Lib.hid (new_one wr (.int .u8 (c.toNat : Int)) 5)
        have hba := (Below.refl wr.heap.size wr).alloc (Nat.le_refl _) (.cells #[.int .u8 (c.toNat : Int)] 5)
        have HRa := Lib.hid (HR1.out.keep hba)
        have HOa := Lib.hid (HO1.out.trans (Only.of (b := b) hba (Nat.le_refl _)))
        have hzz := HO1.out.size
        clear hba hr hw
        go_wp2_with fail
        refine (rdigit_any c _).mono ?_
        rintro e w3 ⟨rfl, rfl⟩
        rw [HDc.out]
        go_wp2_with (at_builtin; refine wpList_append_own _ rfl _ _ 82 rfl w.heap.size 5 i1 (.int .u8 0) 1 1 Tryz.underlying82 hi1 hy0 hy1 hy2 rfl (by decide) (.slice A0 acc.length cp0) acc.length _ rfl HVa.out ⟨wr.heap.size, 0, none⟩ 1 1 [.int .u8 (c.toNat : Int)] rfl rfl HN.out (fun z hz => by simp at hz; subst hz; rfl) ?c3 ?c4 ?c5 ?_)
        case c3 => unfold maxLen; omega
        case c4 => omega
        case c5 => simp; omega
        intro v6 w6 hown6 hg6 _
        have hgr : ∀ q, (Value.slice A0 acc.length cp0).ownBlock = some q → w.heap.size ≤ q := fun q hq => (HVa.out.lt q hq).1
        have HR6 := Lib.hid (HRa.out.grown hg6 hgr hlt)
        have HO6 := Lib.hid (HOa.out.grown hg6 hgr)
        have HV6 : Hid (w6.ownsRow w.heap.size 5 1 v6 (acc ++ [c]).length (bytesV (acc ++ [c]))) := Lib.hid (by
          rw [← bytes_snoc, List.length_append]
          exact hown6)
        clear hown6 hg6 hgr HV HR1 HO1 HVa HN HRa HOa
        obtain ⟨p, j, hp, hd, c0, c1, c5, cf, hbx⟩ := HR6.out.cells
        have hlen : (c :: r).length = r.length + 1 := rfl
        rw [hlen] at hp
        have hT := HR6.out.len
        have e1 : IntKind.i64.wrap ((p : Int) + 1) = (p : Int) + 1 := IntWalk.i64_in _ (by omega)
        have HF := Lib.hid (HR6.out.store (q := p + 1) (l' := r) (by omega) (by rw [← List.drop_drop, hd]; rfl))
        have HOs := Lib.hid (HO6.out.setCell (i := 1) (.int .i64 ((p + 1 : Nat) : Int)))
        have HVs := Lib.hid (own_only HV6.out ((Only.refl b w6).setCell (i := 1) (.int .i64 ((p + 1 : Nat) : Int))) hlt)
        rw [show ((p + 1 : Nat) : Int) = (p : Int) + 1 by simp] at HF HOs HVs
        clear hbx hd c0 c5 HV6 HO6
        go_wp2_with fail
        refine (HPk.out r _ HF.out).mono ?_
        rintro e w7 ⟨rfl, hr7, ho7⟩
        have HR7 := Lib.hid hr7
        have HO7 := Lib.hid (HOs.out.trans ho7)
        have HV7 := Lib.hid (own_only HVs.out ho7 hlt)
        clear hr7 ho7
        go_wp2_with fail
        refine ⟨⟨v6, acc ++ [c], skipJ r, rfl, rfl, Lib.hid (skipJ_skipJ r), HR7, HV7, Lib.hid (by rw [run_skipJ, List.append_assoc]; exact HA1c.out), Lib.hid (by rw [run_skipJ]; exact HA2c.out), HO7⟩, ?_⟩
        have h1 := HPos.out
        have h2 := HR7.out.pos
        have h3 := skipJ_len r
        rw [hlen] at h1
        omega

end Go.Proofs.YtiigclkebnmopaaGreatDoor
