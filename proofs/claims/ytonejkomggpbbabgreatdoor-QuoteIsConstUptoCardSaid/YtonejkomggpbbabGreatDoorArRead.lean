/- Arithmetic expressions: the program's reader: peek. (Begun; see NOTES.md.) -/
import Derived.Test.YtonejkomggpbbabGreatDoorArPlain
import Derived.Test.YtonejkomggpbbabGreatDoorOnly
import Derived.Test.YtonejkomggpbbabGreatDoorShelf
import Derived.BigQuiet
import Derived.IntWalk
import Derived.StillTailTactics
import Derived.Deep.DeepCutAuto
import Derived.Deep.RegionHeld3
import Derived.RangeFuncNested
import Derived.RangeFuncBound
import Derived.RangeFuncCalls
import Derived.RangeFuncLeaves
import Derived.Shelf.Abstract
import Derived.Shelf.RegionOpen
import Derived.OwnWalkIn
import Derived.TacticsInMore
import Derived.LoopNIn
import Derived.LoopIn
namespace Go.Proofs.YtonejkomggpbbabGreatDoor
open Go.RowKit Go.Shelf

def toB (l : List UInt8) : ByteArray := ⟨l.toArray⟩
theorem toB_size (l : List UInt8) : (toB l).size = l.length := by show l.toArray.size = _; simp
theorem toB_list (l : List UInt8) : (toB l).data.toList = l := rfl
def rdC (T : List UInt8) (p : Nat) (lf : Int) : Array Value := #[.string (toB T), .int .i64 (p : Int), .bool false, .slice none 0 0, .int .i64 lf, .bool false]
/-- the reader in block b stands at l, the end of T -/
structure Rd (w : World) (b : Nat) (T l : List UInt8) : Prop where
  box : ∃ (p : Nat) (lf : Int), p + l.length = T.length ∧ 0 ≤ lf ∧ lf ≤ 32768 ∧ w.heap[b]? = some (.cells (rdC T p lf) 53 (0, 0))
  suf : ∃ pre, T = pre ++ l
  len : T.length ≤ 32768
theorem Rd.lt {w : World} {b : Nat} {T l : List UInt8} (h : Rd w b T l) : b < w.heap.size := by
  obtain ⟨p, lf, _, _, _, hb⟩ := h.box
  exact (Array.getElem?_eq_some_iff.1 hb).1
theorem Rd.keep {w w' : World} {b : Nat} {T l : List UInt8} (h : Rd w b T l) (hb : Below w.heap.size w w') : Rd w' b T l := by
  obtain ⟨p, lf, h1, h2, h3, h4⟩ := h.box
  exact ⟨⟨p, lf, h1, h2, h3, (hb.block b h.lt).trans h4⟩, h.suf, h.len⟩
theorem Rd.drewN {w : World} {b : Nat} {T l : List UInt8} (h : Rd w b T l) (n : Nat) : Rd (w.drewN n) b T l := ⟨h.box, h.suf, h.len⟩
/-- the reader's cells -/
theorem Rd.cells {w : World} {b : Nat} {T l : List UInt8} (h : Rd w b T l) : ∃ (p : Nat) (lf : Int), p + l.length = T.length ∧ 0 ≤ lf ∧ lf ≤ 32768 ∧ T.drop p = l ∧ w.cell? ⟨b, 0, none⟩ = some (.string (toB T)) ∧ w.cell? ⟨b, 1, none⟩ = some (.int .i64 (p : Int)) ∧ w.cell? ⟨b, 2, none⟩ = some (.bool false) ∧
    w.cell? ⟨b, 4, none⟩ = some (.int .i64 lf) ∧ (∀ i, w.frozen? ⟨b, i, none⟩ = false) ∧ w.heap[b]? = some (.cells (rdC T p lf) 53 (0, 0)) := by
  obtain ⟨p, lf, h1, h2, h3, h4⟩ := h.box
  obtain ⟨pre, hT⟩ := h.suf
  refine ⟨p, lf, h1, h2, h3, ?_, ?_, ?_, ?_, ?_, ?_, h4⟩
  · have : p = pre.length := by rw [hT] at h1; simp at h1; omega
    rw [hT, this, List.drop_left]
  all_goals first | simp [World.cell?, h4, rdC] | skip
  intro i
  simp [World.frozen?, h4]
/-- where the reader stands -/
def posOf (w : World) (b : Nat) : Nat := match w.cell? ⟨b, 1, none⟩ with
  | some (.int _ n) => n.toNat
  | _ => 0
theorem Rd.put {w : World} {b p : Nat} {lf : Int} {T l l' : List UInt8} {p' : Nat} (h : Rd w b T l) (hb : w.heap[b]? = some (.cells (rdC T p lf) 53 (0, 0))) (h2 : 0 ≤ lf) (h3 : lf ≤ 32768) (hp : p' + l'.length = T.length) (hs : T.drop p' = l') :
    Rd (w.setCell ⟨b, 1, none⟩ (.int .i64 (p' : Int))) b T l' := by
  refine ⟨⟨p', lf, hp, h2, h3, ?_⟩, ⟨T.take p', by rw [← hs]; simp⟩, h.len⟩
  rw [heap_setCell_same _ _ _ _ _ _ hb]
  rfl
theorem Rd.left {w : World} {b p : Nat} {lf lf' : Int} {T l : List UInt8} (h : Rd w b T l) (hb : w.heap[b]? = some (.cells (rdC T p lf) 53 (0, 0))) (hp : p + l.length = T.length) (h2 : 0 ≤ lf') (h3 : lf' ≤ 32768) :
    Rd (w.setCell ⟨b, 4, none⟩ (.int .i64 lf')) b T l := by
  refine ⟨⟨p, lf', hp, h2, h3, ?_⟩, h.suf, h.len⟩
  rw [heap_setCell_same _ _ _ _ _ _ hb]
  rfl
theorem Rd.pos {w : World} {b : Nat} {T l : List UInt8} (h : Rd w b T l) : posOf w b + l.length = T.length := by
  obtain ⟨p, lf, h1, _, _, _, _, c1, _⟩ := h.cells
  unfold posOf
  rw [c1]
  simp
  omega
theorem Rd.left_heap {w : World} {b p : Nat} {lf lf' : Int} {T : List UInt8} (hb : w.heap[b]? = some (.cells (rdC T p lf) 53 (0, 0))) : (w.setCell ⟨b, 4, none⟩ (.int .i64 lf')).heap[b]? = some (.cells (rdC T p lf') 53 (0, 0)) := by
  rw [heap_setCell_same _ _ _ _ _ _ hb]
  rfl
def headI (l : List UInt8) : Int := match l with
  | [] => -1
  | c :: _ => c.toNat

def PeekGives (b : Nat) (T l : List UInt8) (w : World) (e : Ending) (w' : World) : Prop := e = .returned (.int .i64 (headI (skipJ l))) ∧ Rd w' b T (skipJ l) ∧ Only b w w'
set_option maxRecDepth 100000 in
set_option maxHeartbeats 1600000 in
theorem peek_any (b : Nat) (T l : List UInt8) (w : World) (h : Rd w b T l) :
    Calls Tryz.prog 27 #[.pointer (some ⟨b, 0, none⟩)] w (PeekGives b T l w) := by
  have HR := Lib.hid h
  obtain ⟨Q, hQ⟩ : ∃ Q, PeekGives b T l w = Q := ⟨_, rfl⟩
  rw [hQ]
  have HQ := Lib.hid hQ
  clear h hQ
  go_enter Tryz.func27, Tryz.ntmps27
  go_wp2_with fail
  go_loopw [] (fun wr => ∃ l', Hid (Rd wr b T l') ∧ Hid (skipJ l' = skipJ l) ∧ Hid (Only b w wr)) (fun wr => T.length - posOf wr b)
  case atStart => exact ⟨l, HR, Lib.hid rfl, Lib.hid (Only.refl b w)⟩
  case round =>
    obtain ⟨l', HR, HS, HO⟩ := hrel
    obtain ⟨p, lf, hp, hlf1, hlf2, hd, c0, c1, c2, c4, cf, hbx⟩ := HR.out.cells
    have hT := HR.out.len
    have hp0 : (p : Int) ≤ ((toB T).size : Int) := by have := toB_size T; omega
    have hpx : List.take (T.length - p) (List.drop p (toB T).data.toList) = l' := by
      rw [toB_list, hd, ← hp, Nat.add_sub_cancel_left, List.take_length]
    have hsz := toB_size T
    have HRa := HR
    by_cases hj : ∃ r, l' = 92 :: 10 :: r
    · obtain ⟨r, rfl⟩ := hj
      have hpf : Lib.hasPrefix (92 :: 10 :: r) [92, 10] = true := by simp [Lib.hasPrefix]
      go_upto_region 1 with fail
      go_quiet ((go_at_call 40; exact Calls.quiet_of_same (Tryz.strings_HasPrefix _ _ _)))
      have HR2 := Lib.hid (HR.out.drewN nq)
      have HO2 := Lib.hid (HO.out.drewN nq)
      clear HR HO c0 c1 c2 c4 cf hbx hpx hpf hsz hd hp0 hp hlf1 hlf2
      generalize wr.drewN nq = w1 at *
      obtain ⟨p, lf, hp, hlf1, hlf2, hd, c0, c1, c2, c4, cf, hbx⟩ := HR2.out.cells
      have hlen : (92 :: 10 :: r).length = r.length + 2 := rfl
      rw [hlen] at hp
      have e1 : IntKind.i64.wrap ((p : Int) + 1) = (p : Int) + 1 := IntWalk.i64_in _ (by omega)
      go_wp2_with fail
      go_still_tail 13, (by kernel_rfl)
      have hm1 : 0 ≤ max lf ((p : Int) + 1) ∧ max lf ((p : Int) + 1) ≤ 32768 := by omega
      have R3 := HR2.out.left hbx (by rw [hlen]; omega) hm1.1 hm1.2
      have R4 := R3.put (p' := p + 2) (l' := r) (Rd.left_heap hbx) hm1.1 hm1.2 (by omega) (by rw [← List.drop_drop, hd]; rfl)
      have HF := Lib.hid (show Rd ((w1.setCell ⟨b, 4, none⟩ (.int .i64 (max lf ((p : Int) + 1)))).setCell ⟨b, 1, none⟩ (.int .i64 ((p : Int) + 2))) b T r from R4)
      have HG := Lib.hid ((HO2.out.setCell (i := 4) (.int .i64 (max lf ((p : Int) + 1)))).setCell (i := 1) (.int .i64 ((p : Int) + 2)))
      have HP := Lib.hid (HRa.out.pos)
      clear R3 R4 hm1
      go_wp2
      refine ⟨⟨r, Lib.hid (HF.out.drewN 1), Lib.hid (by rw [← HS.out]; simp [skipJ]), Lib.hid (HG.out.drewN 1)⟩, ?_⟩
      have h1 := (HF.out.drewN 1).pos
      have h2 := HP.out
      show T.length - posOf _ b < _
      change posOf (World.drew _) b + _ = _ at h1
      rw [hlen] at h2
      omega
    · have hpf : Lib.hasPrefix l' [92, 10] = false := by
        cases h : Lib.hasPrefix l' [92, 10] with
        | false => rfl
        | true =>
          exfalso
          obtain ⟨r, hr⟩ := List.isPrefixOf_iff_prefix.1 h
          exact hj ⟨r, hr.symm⟩
      have hsk : skipJ l' = l' := by
        match l', hj with
        | [], _ => rfl
        | [a], _ => rfl
        | a :: c :: r, hj => 
          unfold skipJ
          rw [if_neg (fun h => hj ⟨r, by rw [h.1, h.2]⟩)]
      have HK := Lib.hid (show l' = skipJ l from hsk.symm.trans HS.out)
      clear hj hsk
      go_upto_region 1 with fail
      go_quiet ((go_at_call 40; exact Calls.quiet_of_same (Tryz.strings_HasPrefix _ _ _)))
      have HR2 := Lib.hid (HR.out.drewN nq)
      have HO2 := Lib.hid (HO.out.drewN nq)
      clear HR HO c0 c1 c2 c4 cf hbx hpx hpf hsz hd hp0 hp hlf1 hlf2
      generalize wr.drewN nq = w1 at *
      obtain ⟨p, lf, hp, hlf1, hlf2, hd, c0, c1, c2, c4, cf, hbx⟩ := HR2.out.cells
      have hsz := toB_size T
      clear hbx cf
      cases l' with
      | nil =>
        have hpe : p = T.length := hp
        subst hpe
        go_upto_region 4 with fail
        go_quiet (fail)
        have HR3 := Lib.hid (HR2.out.drewN nq)
        have HO3 := Lib.hid (HO2.out.drewN nq)
        go_wp2_with fail
        rw [← HQ.out]
        refine ⟨by rw [← HK.out]; rfl, by rw [← HK.out]; exact HR3.out, HO3.out⟩
      | cons a r =>
        have hlen : (a :: r).length = r.length + 1 := rfl
        rw [hlen] at hp
        have hne : ((p : Int) == (T.length : Int)) = false := by rw [beq_eq_false_iff_ne]; omega
        have hlt : (p : Int) < ((toB T).size : Int) := by omega
        have hp0 : (0 : Int) ≤ (p : Int) := by omega
        have hlt2 : (p : Int) < (T.length : Int) := by omega
        have hlt3 : p < T.length := by omega
        have hlt4 : p < (toB T).size := by omega
        go_upto_region 4 with fail
        go_quiet (fail)
        have HR3 := Lib.hid (HR2.out.drewN nq)
        have HO3 := Lib.hid (HO2.out.drewN nq)
        clear c0 c1 c2 c4
        generalize w1.drewN nq = w2 at *
        obtain ⟨p2, lf2, hp2, _, _, _, c0, c1, c2, c4, cf, hbx⟩ := HR3.out.cells
        rw [hlen] at hp2
        obtain rfl : p2 = p := by omega
        go_wp2_with fail
        go_quiet (fail)
        have HR4 := Lib.hid (HR3.out.drewN nq)
        have HO4 := Lib.hid (HO3.out.drewN nq)
        have hat : ((toB T)[p2]'(by omega)) = a := by
          show (toB T).data[p2]'_ = a
          have e : T[p2]? = some a := by
            have := congrArg (·[0]?) hd
            simpa using this
          obtain ⟨_, e⟩ := List.getElem?_eq_some_iff.1 e
          simpa [toB] using e
        have HA := Lib.hid hat
        clear hat
        go_wp2_with fail
        rw [← HQ.out]
        refine ⟨?_, by rw [← HK.out]; exact HR4.out, HO4.out⟩
        rw [← HK.out, HA.out, wrap64_u8]
        rfl

end Go.Proofs.YtonejkomggpbbabGreatDoor

namespace Go.Proofs.YtonejkomggpbbabGreatDoor
open Go.RowKit Go.Shelf

/-- a panic with a problem -/
def pan (place e : Int) : Ending := .panicked [{ v := .iface 55 (.agg #[.int .i64 place, .int .i64 e]), recovered := false }]
theorem fail_any (v : Value) (n : Int) (w : World) : Calls Tryz.prog 28 #[v, .int .i64 n] w fun e w' => e = pan n 1 ∧ w' = w := by
  go_enter Tryz.func28, Tryz.ntmps28
  go_wp2
  exact ⟨rfl, rfl, rfl⟩
theorem more_any (b : Nat) (T l : List UInt8) (w : World) (h : Rd w b T l) : Calls Tryz.prog 66 #[.pointer (some ⟨b, 0, none⟩)] w fun e w' => e = pan T.length 27 ∧ w' = w := by
  obtain ⟨p, lf, hp, hlf1, hlf2, hd, c0, c1, c2, c4, cf, hbx⟩ := h.cells
  have hsz := toB_size T
  clear hbx cf h hd
  go_enter Tryz.func66, Tryz.ntmps66
  go_wp2
  exact ⟨rfl, rfl, rfl⟩

/-- a place in the reader is stored -/
theorem Rd.store {w : World} {b : Nat} {T l l' : List UInt8} {q : Nat} (h : Rd w b T l) (hq : q + l'.length = T.length) (hd : T.drop q = l') : Rd (w.setCell ⟨b, 1, none⟩ (.int .i64 (q : Int))) b T l' := by
  obtain ⟨p, lf, hp, h2, h3, _, _, _, _, _, _, hb⟩ := h.cells
  exact h.put hb h2 h3 hq hd
def TakeGives (b : Nat) (T l s : List UInt8) (w : World) (e : Ending) (w' : World) : Prop := e = .returned (.bool (takeS s l).isSome) ∧ Rd w' b T ((takeS s l).getD l) ∧ Only b w w'
theorem headI_inj {l : List UInt8} {c : UInt8} : headI l = (c.toNat : Int) ↔ ∃ r, l = c :: r := by
  cases l with
  | nil =>
    constructor
    · intro h
      have h2 : (-1 : Int) = (c.toNat : Int) := h
      omega
    · rintro ⟨r, hr⟩
      cases hr
  | cons a r =>
    constructor
    · intro h
      have h2 : (a.toNat : Int) = (c.toNat : Int) := h
      exact ⟨r, by rw [UInt8.toNat_inj.1 (show a.toNat = c.toNat by omega)]⟩
    · rintro ⟨r', hr⟩
      injection hr with h1 _
      rw [h1]
      rfl
set_option maxRecDepth 100000 in
set_option maxHeartbeats 1600000 in
theorem take_any (b : Nat) (T l s : List UInt8) (w : World) (h : Rd w b T l) (hs : s.length ≤ 100) :
    Calls Tryz.prog 98 #[.pointer (some ⟨b, 0, none⟩), .string (toB s)] w (TakeGives b T l s w) := by
  have HR := Lib.hid h
  have HPk := Lib.hid (fun l' W hW => peek_any b T l' W hW)
  obtain ⟨Q, hQ⟩ : ∃ Q, TakeGives b T l s w = Q := ⟨_, rfl⟩
  rw [hQ]
  have HQ := Lib.hid hQ
  obtain ⟨p0, lf0, hp0, _, _, hd0, c0, c1, c2, c4, cf, hbx⟩ := h.cells
  have HD := Lib.hid (show p0 + l.length = T.length ∧ T.drop p0 = l from ⟨hp0, hd0⟩)
  have hT := h.len
  have hp1 : p0 ≤ 32768 := by omega
  have hsz := toB_size s
  clear h hQ hbx cf hd0 hp0 c0 c2 c4
  go_enter Tryz.func98, Tryz.ntmps98
  go_wp2_with fail
  go_loopw [13] (fun s13 wr => ∃ (k : Nat) (l' : List UInt8), s13 = .int .i64 (k : Int) ∧ k ≤ s.length ∧ Hid (Rd wr b T l') ∧ Hid (takeS (s.drop k) l' = takeS s l) ∧ Hid (Only b w wr)) (fun s13 _ => s.length - (intOf s13).toNat)
  case atStart => exact ⟨0, l, rfl, Nat.zero_le _, HR, Lib.hid rfl, Lib.hid (Only.refl b w)⟩
  case round =>
    clear HR c1
    obtain ⟨k, l', rfl, hk, HR, HS, HO⟩ := hrel
    by_cases hlt : k < s.length
    · have HR1 : Hid (Rd wr.drew b T l') := Lib.hid (HR.out.drewN 1)
      have HO1 : Hid (Only b w wr.drew) := Lib.hid (HO.out.drewN 1)
      have hb2 : k < (toB s).size := by omega
      have hat : ((toB s)[k]'hb2) = s[k] := by
        show (toB s).data[k]'_ = s[k]
        simp [toB]
        rfl
      have e1 : IntKind.i64.wrap (((toB s)[k]'hb2).toNat : Int) = ((s[k] : UInt8).toNat : Int) := by
        rw [hat]
        exact IntWalk.i64_in _ (by have := s[k].toNat_lt; omega)
      clear hat
      have hdr : s.drop k = s[k] :: s.drop (k + 1) := List.drop_eq_getElem_cons hlt
      by_cases hc : ∃ r, skipJ l' = s[k] :: r
      · obtain ⟨r, hr⟩ := hc
        have hbe : (headI (skipJ l') != ((s[k] : UInt8).toNat : Int)) = false := by simpa using headI_inj.2 ⟨r, hr⟩
        have HS2 := Lib.hid (show takeS (s.drop (k + 1)) r = takeS s l by rw [← HS.out, hdr]; simp [takeS, hr])
        have HRr := Lib.hid hr
        clear hr hdr HS
        go_upto_region 5 with fail
        go_region_held3 (fun _ => True) (trivial) (first
          | (go_at_call 27; refine (HPk.out l' _ HR1.out).mono ?_; rintro e w2 ⟨rfl, hr2, ho2⟩; have HR2 := Lib.hid hr2; have HO2 := Lib.hid (HO1.out.trans ho2); clear hr2 ho2))
        all_goals
          obtain ⟨p, lf, hp, hlf1, hlf2, hd, c0, c1, c2, c4, cf, hbx⟩ := HR2.out.cells
          rw [HRr.out] at hp hd
          have hlen : (s[k] :: r).length = r.length + 1 := rfl
          rw [hlen] at hp
          have HF := Lib.hid (HR2.out.store (q := p + 1) (l' := r) (by omega) (by rw [← List.drop_drop, hd]; rfl))
          have HG := Lib.hid (HO2.out.setCell (i := 1) (.int .i64 (((p + 1 : Nat) : Int))))
          clear hbx hd hlen
          go_wp2_with fail
          exact ⟨⟨k + 1, r, by go_num, by omega, HF, HS2, HG⟩, by simp [intOf]; omega⟩
      · have hbe : (headI (skipJ l') != ((s[k] : UInt8).toNat : Int)) = true := by
          simpa using fun h => hc (headI_inj.1 h)
        have HS2 := Lib.hid (show takeS s l = none by
          rw [← HS.out, hdr]
          unfold takeS
          split
          · rename_i d r hd
            rw [if_neg (fun e => hc ⟨r, by rw [hd, e]⟩)]
          · rfl)
        clear hc hdr HS
        go_upto_region 5 with fail
        go_region_held3 (fun _ => True) (trivial) (first
          | (go_at_call 27; refine (HPk.out l' _ HR1.out).mono ?_; rintro e w2 ⟨rfl, hr2, ho2⟩; have HR2 := Lib.hid hr2; have HO2 := Lib.hid (HO1.out.trans ho2); clear hr2 ho2))
        all_goals
          obtain ⟨p, lf, hp, hlf1, hlf2, hd, c0, c1, c2, c4, cf, hbx⟩ := HR2.out.cells
          have HF := Lib.hid (HR2.out.store HD.out.1 HD.out.2)
          have HG := Lib.hid (HO2.out.setCell (i := 1) (.int .i64 (p0 : Int)))
          clear hbx hd hp
          go_wp2_with fail
          rw [← HQ.out]
          exact ⟨by rw [HS2.out]; rfl, by rw [HS2.out]; exact HF.out, HG.out⟩
    · obtain rfl : k = s.length := by omega
      go_wp2_with fail
      rw [← HQ.out]
      have h1 := HS.out
      rw [List.drop_length] at h1
      have h2 : takeS s l = some l' := h1.symm
      exact ⟨by rw [h2]; rfl, by rw [h2]; exact HR.out, HO.out⟩

end Go.Proofs.YtonejkomggpbbabGreatDoor

namespace Go.Proofs.YtonejkomggpbbabGreatDoor
open Go.RowKit Go.Shelf

def HasGives (b : Nat) (T l s : List UInt8) (w : World) (e : Ending) (w' : World) : Prop := e = .returned (.bool (takeS s l).isSome) ∧ Rd w' b T l ∧ Only b w w'
set_option maxRecDepth 100000 in
set_option maxHeartbeats 1600000 in
theorem has_any (b : Nat) (T l s : List UInt8) (w : World) (h : Rd w b T l) (hs : s.length ≤ 100) :
    Calls Tryz.prog 140 #[.pointer (some ⟨b, 0, none⟩), .string (toB s)] w (HasGives b T l s w) := by
  have HTk := Lib.hid (take_any b T l s w h hs)
  obtain ⟨Q, hQ⟩ : ∃ Q, HasGives b T l s w = Q := ⟨_, rfl⟩
  rw [hQ]
  have HQ := Lib.hid hQ
  obtain ⟨p0, lf0, hp0, _, _, hd0, c0, c1, c2, c4, cf, hbx⟩ := h.cells
  have HD := Lib.hid (show p0 + l.length = T.length ∧ T.drop p0 = l from ⟨hp0, hd0⟩)
  clear h hQ hbx cf hd0 hp0 c0 c2 c4
  go_enter Tryz.func140, Tryz.ntmps140
  go_wp2_with fail
  refine HTk.out.mono ?_
  rintro e w2 ⟨rfl, hr2, ho2⟩
  have HF := Lib.hid (hr2.store HD.out.1 HD.out.2)
  have HG := Lib.hid (ho2.setCell (i := 1) (.int .i64 (p0 : Int)))
  obtain ⟨p, lf, hp, hlf1, hlf2, hd, c0, c1', c2, c4, cf, hbx⟩ := hr2.cells
  clear hbx hd hp c0 c2 c4 c1 hr2 ho2 HTk
  obtain ⟨bb, hbb⟩ : ∃ bb, (takeS s l).isSome = bb := ⟨_, rfl⟩
  have HBB := Lib.hid hbb
  rw [hbb]
  clear hbb
  go_wp2_with fail
  rw [← HQ.out]
  exact ⟨by rw [HBB.out]; rfl, HF.out, HG.out⟩

def isDB (c : Int) : Bool := decide (48 ≤ c ∧ c ≤ 57)
def isLB (c : Int) : Bool := decide (97 ≤ c ∧ c ≤ 122 ∨ 65 ≤ c ∧ c ≤ 90 ∨ c = 95)
def isBB (c : Int) : Bool := decide (c = 32 ∨ c = 9)
set_option maxHeartbeats 1600000 in
theorem isDigit_any (c : Int) (w : World) : Calls Tryz.prog 13 #[.int .i64 c] w fun e w' => e = .returned (.bool (isDB c)) ∧ w = w' := by
  have HC := Lib.hid (show isDB c = decide (48 ≤ c ∧ c ≤ 57) from rfl)
  generalize isDB c = r at *
  by_cases h1 : 48 ≤ c
  · go_enter Tryz.func13, Tryz.ntmps13
    go_wp2
    go_ret
    exact ⟨ret_bool (by rw [HC.out, Bool.eq_iff_iff]; simp <;> omega), rfl⟩
  · go_enter Tryz.func13, Tryz.ntmps13
    go_wp2
    go_ret
    exact ⟨ret_bool (by rw [HC.out, Bool.eq_iff_iff]; simp <;> omega), rfl⟩
set_option maxHeartbeats 1600000 in
theorem isBlank_any (c : Int) (w : World) : Calls Tryz.prog 41 #[.int .i64 c] w fun e w' => e = .returned (.bool (isBB c)) ∧ w = w' := by
  have HC := Lib.hid (show isBB c = decide (c = 32 ∨ c = 9) from rfl)
  generalize isBB c = r at *
  by_cases h1 : c = 32
  · have hb1 : (c == 32) = true := by simpa using h1
    go_enter Tryz.func41, Tryz.ntmps41
    go_wp2
    go_ret
    exact ⟨ret_bool (by rw [HC.out, Bool.eq_iff_iff]; simp <;> omega), rfl⟩
  · have hb1 : (c == 32) = false := by simpa using h1
    go_enter Tryz.func41, Tryz.ntmps41
    go_wp2
    go_ret
    exact ⟨ret_bool (by rw [HC.out, Bool.eq_iff_iff]; simp <;> omega), rfl⟩
set_option maxHeartbeats 1600000 in
theorem isLetter_any (c : Int) (w : World) : Calls Tryz.prog 12 #[.int .i64 c] w fun e w' => e = .returned (.bool (isLB c)) ∧ w = w' := by
  have HC := Lib.hid (show isLB c = decide (97 ≤ c ∧ c ≤ 122 ∨ 65 ≤ c ∧ c ≤ 90 ∨ c = 95) from rfl)
  generalize isLB c = r at *
  by_cases h1 : 97 ≤ c
  · by_cases h2 : c ≤ 122
    · by_cases h3 : 65 ≤ c
      · by_cases h4 : c ≤ 90
        · by_cases h5 : c = 95
          · have hb5 : (c == 95) = true := by simpa using h5
            go_enter Tryz.func12, Tryz.ntmps12
            go_wp2
            go_ret
            exact ⟨ret_bool (by rw [HC.out, Bool.eq_iff_iff]; simp <;> omega), rfl⟩
          · have hb5 : (c == 95) = false := by simpa using h5
            go_enter Tryz.func12, Tryz.ntmps12
            go_wp2
            go_ret
            exact ⟨ret_bool (by rw [HC.out, Bool.eq_iff_iff]; simp <;> omega), rfl⟩
        · by_cases h5 : c = 95
          · have hb5 : (c == 95) = true := by simpa using h5
            go_enter Tryz.func12, Tryz.ntmps12
            go_wp2
            go_ret
            exact ⟨ret_bool (by rw [HC.out, Bool.eq_iff_iff]; simp <;> omega), rfl⟩
          · have hb5 : (c == 95) = false := by simpa using h5
            go_enter Tryz.func12, Tryz.ntmps12
            go_wp2
            go_ret
            exact ⟨ret_bool (by rw [HC.out, Bool.eq_iff_iff]; simp <;> omega), rfl⟩
      · by_cases h4 : c ≤ 90
        · by_cases h5 : c = 95
          · have hb5 : (c == 95) = true := by simpa using h5
            go_enter Tryz.func12, Tryz.ntmps12
            go_wp2
            go_ret
            exact ⟨ret_bool (by rw [HC.out, Bool.eq_iff_iff]; simp <;> omega), rfl⟩
          · have hb5 : (c == 95) = false := by simpa using h5
            go_enter Tryz.func12, Tryz.ntmps12
            go_wp2
            go_ret
            exact ⟨ret_bool (by rw [HC.out, Bool.eq_iff_iff]; simp <;> omega), rfl⟩
        · by_cases h5 : c = 95
          · have hb5 : (c == 95) = true := by simpa using h5
            go_enter Tryz.func12, Tryz.ntmps12
            go_wp2
            go_ret
            exact ⟨ret_bool (by rw [HC.out, Bool.eq_iff_iff]; simp <;> omega), rfl⟩
          · have hb5 : (c == 95) = false := by simpa using h5
            go_enter Tryz.func12, Tryz.ntmps12
            go_wp2
            go_ret
            exact ⟨ret_bool (by rw [HC.out, Bool.eq_iff_iff]; simp <;> omega), rfl⟩
    · by_cases h3 : 65 ≤ c
      · by_cases h4 : c ≤ 90
        · by_cases h5 : c = 95
          · have hb5 : (c == 95) = true := by simpa using h5
            go_enter Tryz.func12, Tryz.ntmps12
            go_wp2
            go_ret
            exact ⟨ret_bool (by rw [HC.out, Bool.eq_iff_iff]; simp <;> omega), rfl⟩
          · have hb5 : (c == 95) = false := by simpa using h5
            go_enter Tryz.func12, Tryz.ntmps12
            go_wp2
            go_ret
            exact ⟨ret_bool (by rw [HC.out, Bool.eq_iff_iff]; simp <;> omega), rfl⟩
        · by_cases h5 : c = 95
          · have hb5 : (c == 95) = true := by simpa using h5
            go_enter Tryz.func12, Tryz.ntmps12
            go_wp2
            go_ret
            exact ⟨ret_bool (by rw [HC.out, Bool.eq_iff_iff]; simp <;> omega), rfl⟩
          · have hb5 : (c == 95) = false := by simpa using h5
            go_enter Tryz.func12, Tryz.ntmps12
            go_wp2
            go_ret
            exact ⟨ret_bool (by rw [HC.out, Bool.eq_iff_iff]; simp <;> omega), rfl⟩
      · by_cases h4 : c ≤ 90
        · by_cases h5 : c = 95
          · have hb5 : (c == 95) = true := by simpa using h5
            go_enter Tryz.func12, Tryz.ntmps12
            go_wp2
            go_ret
            exact ⟨ret_bool (by rw [HC.out, Bool.eq_iff_iff]; simp <;> omega), rfl⟩
          · have hb5 : (c == 95) = false := by simpa using h5
            go_enter Tryz.func12, Tryz.ntmps12
            go_wp2
            go_ret
            exact ⟨ret_bool (by rw [HC.out, Bool.eq_iff_iff]; simp <;> omega), rfl⟩
        · by_cases h5 : c = 95
          · have hb5 : (c == 95) = true := by simpa using h5
            go_enter Tryz.func12, Tryz.ntmps12
            go_wp2
            go_ret
            exact ⟨ret_bool (by rw [HC.out, Bool.eq_iff_iff]; simp <;> omega), rfl⟩
          · have hb5 : (c == 95) = false := by simpa using h5
            go_enter Tryz.func12, Tryz.ntmps12
            go_wp2
            go_ret
            exact ⟨ret_bool (by rw [HC.out, Bool.eq_iff_iff]; simp <;> omega), rfl⟩
  · by_cases h2 : c ≤ 122
    · by_cases h3 : 65 ≤ c
      · by_cases h4 : c ≤ 90
        · by_cases h5 : c = 95
          · have hb5 : (c == 95) = true := by simpa using h5
            go_enter Tryz.func12, Tryz.ntmps12
            go_wp2
            go_ret
            exact ⟨ret_bool (by rw [HC.out, Bool.eq_iff_iff]; simp <;> omega), rfl⟩
          · have hb5 : (c == 95) = false := by simpa using h5
            go_enter Tryz.func12, Tryz.ntmps12
            go_wp2
            go_ret
            exact ⟨ret_bool (by rw [HC.out, Bool.eq_iff_iff]; simp <;> omega), rfl⟩
        · by_cases h5 : c = 95
          · have hb5 : (c == 95) = true := by simpa using h5
            go_enter Tryz.func12, Tryz.ntmps12
            go_wp2
            go_ret
            exact ⟨ret_bool (by rw [HC.out, Bool.eq_iff_iff]; simp <;> omega), rfl⟩
          · have hb5 : (c == 95) = false := by simpa using h5
            go_enter Tryz.func12, Tryz.ntmps12
            go_wp2
            go_ret
            exact ⟨ret_bool (by rw [HC.out, Bool.eq_iff_iff]; simp <;> omega), rfl⟩
      · by_cases h4 : c ≤ 90
        · by_cases h5 : c = 95
          · have hb5 : (c == 95) = true := by simpa using h5
            go_enter Tryz.func12, Tryz.ntmps12
            go_wp2
            go_ret
            exact ⟨ret_bool (by rw [HC.out, Bool.eq_iff_iff]; simp <;> omega), rfl⟩
          · have hb5 : (c == 95) = false := by simpa using h5
            go_enter Tryz.func12, Tryz.ntmps12
            go_wp2
            go_ret
            exact ⟨ret_bool (by rw [HC.out, Bool.eq_iff_iff]; simp <;> omega), rfl⟩
        · by_cases h5 : c = 95
          · have hb5 : (c == 95) = true := by simpa using h5
            go_enter Tryz.func12, Tryz.ntmps12
            go_wp2
            go_ret
            exact ⟨ret_bool (by rw [HC.out, Bool.eq_iff_iff]; simp <;> omega), rfl⟩
          · have hb5 : (c == 95) = false := by simpa using h5
            go_enter Tryz.func12, Tryz.ntmps12
            go_wp2
            go_ret
            exact ⟨ret_bool (by rw [HC.out, Bool.eq_iff_iff]; simp <;> omega), rfl⟩
    · by_cases h3 : 65 ≤ c
      · by_cases h4 : c ≤ 90
        · by_cases h5 : c = 95
          · have hb5 : (c == 95) = true := by simpa using h5
            go_enter Tryz.func12, Tryz.ntmps12
            go_wp2
            go_ret
            exact ⟨ret_bool (by rw [HC.out, Bool.eq_iff_iff]; simp <;> omega), rfl⟩
          · have hb5 : (c == 95) = false := by simpa using h5
            go_enter Tryz.func12, Tryz.ntmps12
            go_wp2
            go_ret
            exact ⟨ret_bool (by rw [HC.out, Bool.eq_iff_iff]; simp <;> omega), rfl⟩
        · by_cases h5 : c = 95
          · have hb5 : (c == 95) = true := by simpa using h5
            go_enter Tryz.func12, Tryz.ntmps12
            go_wp2
            go_ret
            exact ⟨ret_bool (by rw [HC.out, Bool.eq_iff_iff]; simp <;> omega), rfl⟩
          · have hb5 : (c == 95) = false := by simpa using h5
            go_enter Tryz.func12, Tryz.ntmps12
            go_wp2
            go_ret
            exact ⟨ret_bool (by rw [HC.out, Bool.eq_iff_iff]; simp <;> omega), rfl⟩
      · by_cases h4 : c ≤ 90
        · by_cases h5 : c = 95
          · have hb5 : (c == 95) = true := by simpa using h5
            go_enter Tryz.func12, Tryz.ntmps12
            go_wp2
            go_ret
            exact ⟨ret_bool (by rw [HC.out, Bool.eq_iff_iff]; simp <;> omega), rfl⟩
          · have hb5 : (c == 95) = false := by simpa using h5
            go_enter Tryz.func12, Tryz.ntmps12
            go_wp2
            go_ret
            exact ⟨ret_bool (by rw [HC.out, Bool.eq_iff_iff]; simp <;> omega), rfl⟩
        · by_cases h5 : c = 95
          · have hb5 : (c == 95) = true := by simpa using h5
            go_enter Tryz.func12, Tryz.ntmps12
            go_wp2
            go_ret
            exact ⟨ret_bool (by rw [HC.out, Bool.eq_iff_iff]; simp <;> omega), rfl⟩
          · have hb5 : (c == 95) = false := by simpa using h5
            go_enter Tryz.func12, Tryz.ntmps12
            go_wp2
            go_ret
            exact ⟨ret_bool (by rw [HC.out, Bool.eq_iff_iff]; simp <;> omega), rfl⟩

/-- the next byte, which is there -/
def NextGives (b : Nat) (T : List UInt8) (c : UInt8) (r : List UInt8) (w : World) (e : Ending) (w' : World) : Prop := e = .returned (.int .u8 (c.toNat : Int)) ∧ Rd w' b T r ∧ Only b w w'
set_option maxRecDepth 100000 in
set_option maxHeartbeats 1600000 in
theorem next_any (b : Nat) (T l : List UInt8) (c : UInt8) (r : List UInt8) (w : World) (h : Rd w b T l) (hl : skipJ l = c :: r) :
    Calls Tryz.prog 69 #[.pointer (some ⟨b, 0, none⟩)] w (NextGives b T c r w) := by
  have HPk := Lib.hid (peek_any b T l w h)
  obtain ⟨Q, hQ⟩ : ∃ Q, NextGives b T c r w = Q := ⟨_, rfl⟩
  rw [hQ]
  have HQ := Lib.hid hQ
  have HL := Lib.hid hl
  have hc := c.toNat_lt
  clear h hQ hl
  have hne : ((c.toNat : Int) == -1) = false := by rw [beq_eq_false_iff_ne]; omega
  have hw : IntKind.u8.wrap (c.toNat : Int) = (c.toNat : Int) := by simp [IntKind.wrap, IntKind.bits, IntKind.signed]; omega
  go_enter Tryz.func69, Tryz.ntmps69
  go_wp2_with fail
  refine HPk.out.mono ?_
  rintro e w2 ⟨rfl, hr2, ho2⟩
  rw [HL.out] at hr2 ⊢
  obtain ⟨p, lf, hp, hlf1, hlf2, hd, c0, c1, c2, c4, cf, hbx⟩ := hr2.cells
  have hlen : (c :: r).length = r.length + 1 := rfl
  rw [hlen] at hp
  have hT := hr2.len
  have HF := Lib.hid (hr2.store (q := p + 1) (l' := r) (by omega) (by rw [← List.drop_drop, hd]; rfl))
  have HG := Lib.hid (ho2.setCell (i := 1) (.int .i64 ((p + 1 : Nat) : Int)))
  clear hbx hd hlen hr2 ho2 HPk c0 c2 c4
  rw [show headI (c :: r) = (c.toNat : Int) from rfl]
  go_wp2_with fail
  trace_state
  rw [← HQ.out]
  exact ⟨rfl, HF.out, HG.out⟩

end Go.Proofs.YtonejkomggpbbabGreatDoor

namespace Go.Proofs.YtonejkomggpbbabGreatDoor
open Go.RowKit Go.Shelf
attribute [local go_sem] Oper.semAt_some

/-- parts with a blank between them -/
def joinS : List (List UInt8) → List UInt8
  | [] => []
  | [t] => t
  | t :: u :: r => t ++ 32 :: joinS (u :: r)
theorem ib_none : ∀ (l : List UInt8), (32 : UInt8) ∉ l → Lib.indexByte l 32 = -1
  | [], _ => rfl
  | a :: l, h => by
    have h1 : (a == 32) = false := by simpa using fun e => h (by simp [e])
    have h2 := ib_none l (fun hm => h (by simp [hm]))
    simp [Lib.indexByte, h1, h2]
theorem ib_hit : ∀ (l r : List UInt8), (32 : UInt8) ∉ l → Lib.indexByte (l ++ 32 :: r) 32 = (l.length : Int)
  | [], r, _ => by simp [Lib.indexByte]
  | a :: l, r, h => by
    have h1 : (a == 32) = false := by simpa using fun e => h (by simp [e])
    have h2 := ib_hit l r (fun hm => h (by simp [hm]))
    have h3 : ((l.length : Int) == -1) = false := by rw [beq_eq_false_iff_ne]; omega
    simp only [Lib.indexByte, List.cons_append, h1, h2, h3]
    simp
/-- the boxes that the parts are read from -/
structure Bxs (W : World) (B1 B2 B3 : Nat) (s : List UInt8) : Prop where
  sep : W.cell? ⟨B1, 0, none⟩ = some (.string ⟨#[32]⟩)
  str : W.cell? ⟨B2, 0, none⟩ = some (.string (toB s))
  save : W.cell? ⟨B3, 0, none⟩ = some (.int .i64 0)
  fz : W.frozen? ⟨B2, 0, none⟩ = false
def strSize (W : World) (B : Nat) : Nat := match W.cell? ⟨B, 0, none⟩ with
  | some (.string s) => s.size
  | _ => 0
theorem Bxs.size {W : World} {B1 B2 B3 : Nat} {s : List UInt8} (h : Bxs W B1 B2 B3 s) : strSize W B2 = s.length := by
  unfold strSize
  rw [h.str]
  exact toB_size s
theorem Bxs.put {W : World} {B1 B2 B3 : Nat} {s : List UInt8} (h : Bxs W B1 B2 B3 s) (h1 : B1 ≠ B2) (h3 : B3 ≠ B2) (s' : List UInt8) : Bxs (W.setCell ⟨B2, 0, none⟩ (.string (toB s'))) B1 B2 B3 s' :=
  ⟨(World.cell?_setCell_other _ _ _ _ (fun e => h1 (by injection e with e1 _ _; exact e1.symm))).trans h.sep, World.cell?_setCell_same' _ _ _ (by rw [h.str]; rfl),
    (World.cell?_setCell_other _ _ _ _ (fun e => h3 (by injection e with e1 _ _; exact e1.symm))).trans h.save, by rw [World.frozen?_setCell]; exact h.fz⟩
theorem join_len : ∀ (L : List (List UInt8)), (∀ t ∈ L, t.length ≤ 100) → (joinS L).length ≤ 101 * L.length
  | [], _ => Nat.zero_le _
  | [t], h => by
    have := h t (by simp)
    show t.length ≤ 101
    omega
  | t :: u :: r, h => by
    have h1 := h t (by simp)
    have h2 := join_len (u :: r) (fun x hx => h x (by simp [hx]))
    show (t ++ 32 :: joinS (u :: r)).length ≤ _
    simp at *
    omega
set_option maxRecDepth 100000 in
set_option maxHeartbeats 1600000 in
theorem split_iter (l B1 B2 B3 m : Nat) (I : List (List UInt8) → World → Prop) (Ix : World → Prop) (hB1 : B1 ≠ B2) (hB3 : B3 ≠ B2)
    (hIst : ∀ k W v, I k W → I k (W.setCell ⟨B2, 0, none⟩ v)) (N : List UInt8 → Prop) (hN : ∀ t, N t → (32 : UInt8) ∉ t ∧ t.length ≤ 100)
    (hY : ∀ (t : List UInt8) (r : List (List UInt8)) (W : World), N t → I (t :: r) W → Bxs W B1 B2 B3 (joinS (t :: r)) → YieldAt Fence.wide m Tryz.prog l #[.string (toB t)] W fun e W' => (e = .returned (.bool true) ∧ I r W' ∧ Bxs W' B1 B2 B3 (joinS (t :: r))) ∨ (e = .returned (.bool false) ∧ Ix W'))
    (ts : List (List UInt8)) (hts : ts ≠ []) (hall : ∀ t ∈ ts, N t) (hlen : ts.length ≤ 100) (W : World) (h0 : I ts W) (hb : Bxs W B1 B2 B3 (joinS ts)) :
    CallsIn Fence.wide (m + 1) Tryz.prog 176 #[.func (.yield l) #[] #[], .pointer (some ⟨B1, 0, none⟩), .pointer (some ⟨B2, 0, none⟩), .pointer (some ⟨B3, 0, none⟩)] W fun e W' => (∃ v, e = .returned v) ∧ (I [] W' ∨ Ix W') := by
  have HY := Lib.hid hY
  have HI := Lib.hid hIst
  have HN := Lib.hid hN
  have H0 := Lib.hid h0
  have HB := Lib.hid hb
  have HA := Lib.hid hall
  have c1 := hb.sep
  clear hY hIst hN h0 hb hall
  refine callsIn_of_wp Tryz.func176 rfl trivial ?_ rfl
  simp only [Tryz.ntmps176, List.size_toArray, List.length_cons, List.length_nil, Nat.reduceAdd, Nat.reduceSub, Array.replicate_succ, Array.replicate_zero, List.push_toArray, List.append_toArray, List.nil_append, List.cons_append]
  gi_wp2
  gi_loopw [] (fun wr => ∃ ts', ts' ≠ [] ∧ Hid (∀ t ∈ ts', N t) ∧ ts'.length ≤ 100 ∧ Hid (I ts' wr) ∧ Hid (Bxs wr B1 B2 B3 (joinS ts'))) (fun wr => strSize wr B2)
  case atStart => exact ⟨ts, hts, HA, hlen, H0, HB⟩
  case round =>
    clear HA H0 HB c1 hlen hts
    obtain ⟨ts', hne, HA, hlen, H0, HB⟩ := hrel
    have c1 := HB.out.sep
    have c2 := HB.out.str
    have c3 := HB.out.save
    have cf := HB.out.fz
    cases ts' with
    | nil => exact absurd rfl hne
    | cons t r =>
      obtain ⟨fn, tmps, assign, body, hy, hR⟩ := HY.out t r wr (HA.out t (by simp)) H0.out HB.out
      have htn := HN.out t (HA.out t (by simp))
      cases r with
      | nil =>
        have hix := ib_none t htn.1
        have hjs : joinS [t] = t := rfl
        rw [hjs] at c2
        have hIx : ∀ W, Calls Tryz.prog 59 #[.string (toB t), .string ⟨#[32]⟩] W fun e w' => e = .returned (.int .i64 (-1)) ∧ w' = W := fun W => by
          have := Tryz.strings_Index_one (toB t) 32 W
          rw [toB_list, hix] at this
          exact this
        have HX := Lib.hid hIx
        clear hIx hix hjs htn
        gi_wp2_with (refine ⟨trivial, ?_⟩; gi_at_call 59; refine (callsIn_wide.2 (HX.out _)).mono ?_; rintro e w' ⟨rfl, rfl⟩)
        refine hR.mono ?_
        rintro e W' (⟨rfl, hI, hb⟩ | ⟨rfl, hx⟩)
        · gi_wp2
          go_end0
          exact ⟨⟨_, rfl⟩, .inl hI⟩
        · gi_wp2
          go_end0
          exact ⟨⟨_, rfl⟩, .inr hx⟩
      | cons u r =>
        have hjs : joinS (t :: u :: r) = t ++ 32 :: joinS (u :: r) := rfl
        have hix := ib_hit t (joinS (u :: r)) htn.1
        have hjl := join_len (t :: u :: r) (fun x hx => (HN.out x (HA.out x hx)).2)
        have hju := Lib.hid (show (joinS (t :: u :: r)).length = t.length + (1 + (joinS (u :: r)).length) by rw [hjs]; simp; omega)
        have hle : (joinS (t :: u :: r)).length ≤ 10100 := by simp at hjl hlen; omega
        have htl := htn.2
        have htle : t.length ≤ (joinS (t :: u :: r)).length := by rw [hju.out]; omega
        have htle1 : t.length + 1 ≤ (joinS (t :: u :: r)).length := by rw [hju.out]; omega
        have hsz := toB_size (joinS (t :: u :: r))
        have hex : (toB (joinS (t :: u :: r))).extract 0 t.length = toB t := by
          apply ByteArray.ext
          apply Array.toList_inj.1
          rw [hjs]
          simp [toB, ByteArray.data_extract]
        have hex2 : (toB (joinS (t :: u :: r))).extract (t.length + 1) (joinS (t :: u :: r)).length = toB (joinS (u :: r)) := by
          apply ByteArray.ext
          apply Array.toList_inj.1
          rw [hjs]
          simp [toB, ByteArray.data_extract]
          exact List.take_of_length_le (by omega)
        have hIx : ∀ W, Calls Tryz.prog 59 #[.string (toB (joinS (t :: u :: r))), .string ⟨#[32]⟩] W fun e w' => e = .returned (.int .i64 (t.length : Int)) ∧ w' = W := fun W => by
          have := Tryz.strings_Index_one (toB (joinS (t :: u :: r))) 32 W
          rw [toB_list, hjs, hix] at this
          exact this
        have HSz := Lib.hid HB.out.size
        have HX := Lib.hid hIx
        have HXt := Lib.hid hex2
        clear hIx hix hjs htn hjl hex2
        gi_wp2_with (refine ⟨trivial, ?_⟩; gi_at_call 59; refine (callsIn_wide.2 (HX.out _)).mono ?_; rintro e w' ⟨rfl, rfl⟩)
        refine hR.mono ?_
        rintro e W' (⟨rfl, hI, hb⟩ | ⟨rfl, hx⟩)
        · have k1 := hb.sep
          have k2 := hb.str
          have k3 := hb.save
          have kf := hb.fz
          have hex2 := HXt.out
          have HIr := Lib.hid hI
          have HBr := Lib.hid hb
          clear hI hb c1 c2 c3 cf hy hR H0 HB
          gi_wp2
          refine ⟨⟨u :: r, by simp, Lib.hid (fun x hx => HA.out x (by simp [hx])), by simp at hlen ⊢; omega, Lib.hid (HI.out _ _ _ HIr.out), Lib.hid (HBr.out.put hB1 hB3 _)⟩, ?_⟩
          rw [(HBr.out.put hB1 hB3 _).size, HSz.out, hju.out]
          omega
        · gi_wp2
          refine bodyPost_ret (results_none rfl _ _ _) rfl ?_
          exact ⟨⟨_, rfl⟩, .inr hx⟩

end Go.Proofs.YtonejkomggpbbabGreatDoor

namespace Go.Proofs.YtonejkomggpbbabGreatDoor
open Go.RowKit Go.Shelf

theorem only_put (w : World) (x : Nat) (o : Obj) : Only x w (w.putObj x o) := ⟨rfl, rfl, rfl, by simp, fun k _ hk => World.putObj_heap_other hk⟩
theorem only_alloc (w : World) (o : Obj) : Only w.heap.size w (w.alloc o) := Only.of ((Below.refl w.heap.size w).alloc (Nat.le_refl _) o) (Nat.le_refl _)
/-- what lies from a place on stays -/
def KeepF (B : Nat) (W W' : World) : Prop := W.heap.size ≤ W'.heap.size ∧ ∀ k, B ≤ k → k < W.heap.size → W'.heap[k]? = W.heap[k]?
theorem KeepF.same {B : Nat} {W W' : World} (h : KeepF B W W') {k : Nat} {o : Obj} (hk : B ≤ k) (ho : W.heap[k]? = some o) : W'.heap[k]? = some o := (h.2 k hk (Array.getElem?_eq_some_iff.1 ho).1).trans ho
/-- how a round's body may end -/
def bodyE (B B1 B2 B3 : Nat) (I : List (List UInt8) → World → Prop) (Ix : World → Prop) (t : List UInt8) (r : List (List UInt8)) (W : World) : Exit → Act → World → Prop
  | .normal, _, W' => I r W' ∧ Bxs W' B1 B2 B3 (joinS (t :: r)) ∧ KeepF B W W'
  | .ret, _, W' => Ix W' ∧ KeepF B W W'
  | _, _, _ => False

set_option maxHeartbeats 1600000 in
theorem wpIn_parts {m : Nat} {g : Operand} {p : Tmp} {assign body : Code} {Q : Exit → Act → World → Prop} {a : Act} {w : World} {B1 B2 B3 : Nat}
    (hg : a.eval g = .func (.func 176) #[] #[.pointer (some ⟨B1, 0, none⟩), .pointer (some ⟨B2, 0, none⟩), .pointer (some ⟨B3, 0, none⟩)]) (hB1 : B1 ≠ B2) (hB3 : B3 ≠ B2) (hlt : B1 < w.heap.size ∧ B2 < w.heap.size ∧ B3 < w.heap.size)
    (I : List (List UInt8) → World → Prop) (Ix : World → Prop) (hI : ∀ ts x W W', I ts W → Only x W W' → w.heap.size ≤ x → I ts W') (hIst : ∀ ts W v, I ts W → I ts (W.setCell ⟨B2, 0, none⟩ v))
    (hIx : ∀ x W W', Ix W → Only x W W' → w.heap.size ≤ x → Ix W') (N : List UInt8 → Prop) (hN : ∀ t, N t → (32 : UInt8) ∉ t ∧ t.length ≤ 100)
    (ts : List (List UInt8)) (hts : ts ≠ []) (hall : ∀ t ∈ ts, N t) (hlen : ts.length ≤ 100) (h0 : I ts w) (hb : Bxs w B1 B2 B3 (joinS ts)) (a₁ : List UInt8 → Act)
    (hassign : ∀ (l : Nat) (t : List UInt8) (W : World) (K : Act → World → Prop), K (a₁ t) W → assign.wpIn (Fence.wide.inRound l) m Tryz.prog (Exit.then K (fun _ _ _ => False)) { tmps := a.tmps.setIfInBounds p (.string (toB t)), defers := [] } W)
    (hbody : ∀ (l : Nat) (t : List UInt8) (r : List (List UInt8)) (W : World), N t → I (t :: r) W → Bxs W B1 B2 B3 (joinS (t :: r)) → body.wpIn (Fence.wide.inRound l) m Tryz.prog (bodyE w.heap.size B1 B2 B3 I Ix t r W) (a₁ t) W)
    (hdone : ∀ (W : World), I [] W → W.heap[w.heap.size]? = some (.deferred (some [])) → Q .normal { a with defers := { target := .collected w.heap.size, args := #[] } :: a.defers } W)
    (hstop : ∀ (W : World), Ix W → W.heap[w.heap.size]? = some (.deferred (some [])) → Code.ret.wpIn Fence.wide (m + 2) Tryz.prog Q { a with defers := { target := .collected w.heap.size, args := #[] } :: a.defers } W) :
    (Code.rangeFunc g #[p] assign body).wpIn Fence.wide (m + 2) Tryz.prog Q a w := by
  refine wpIn_rangeFunc ?_
  intro fn hfn
  obtain ⟨rec, hrec⟩ : ∃ rec : LoopState → Option Code → Loop, rec = fun st pe => { state := st, pending := pe, fn, tmps := a.tmps, params := #[p], assign, body, defers := w.heap.size } := ⟨_, rfl⟩
  obtain ⟨W1, hW1⟩ : ∃ W1, (w.alloc (.deferred (some []))).alloc (.loop (rec .ready none)) = W1 := ⟨_, rfl⟩
  have hs1 : (w.alloc (.deferred (some []))).heap.size = w.heap.size + 1 := by simp
  have hL1 : W1.heap[w.heap.size + 1]? = some (.loop (rec .ready none)) := by
    rw [← hW1]; have := World.alloc_heap_new (w.alloc (.deferred (some []))) (.loop (rec .ready none)); rwa [hs1] at this
  have hK1 : W1.heap[w.heap.size]? = some (.deferred (some [])) := by
    rw [← hW1]; exact (Below.heap_alloc _ _ _ (by simp)).trans (World.alloc_heap_new w _)
  have o1 := only_alloc w (.deferred (some []))
  have o2 := only_alloc (w.alloc (.deferred (some []))) (.loop (rec .ready none))
  rw [hs1, hW1] at o2
  have hI1 : I ts W1 := hI _ _ _ _ (hI _ _ _ _ h0 o1 (Nat.le_refl _)) o2 (by omega)
  have bxo : ∀ {s : List UInt8} {x : Nat} {W W' : World}, Bxs W B1 B2 B3 s → Only x W W' → w.heap.size ≤ x → w.heap.size ≤ W.heap.size → Bxs W' B1 B2 B3 s := fun {s x W W'} h ho hx hz => by
    have e := fun k (hk : k < w.heap.size) => ho.block k (by omega) (by omega)
    have f : ∀ k, k < w.heap.size → W'.frozen? ⟨k, 0, none⟩ = W.frozen? ⟨k, 0, none⟩ := fun k hk => by simp [World.frozen?, e k hk]
    exact ⟨(World.cell?_of_block (a := ⟨B1, 0, none⟩) (e _ hlt.1)).trans h.sep, (World.cell?_of_block (a := ⟨B2, 0, none⟩) (e _ hlt.2.1)).trans h.str, (World.cell?_of_block (a := ⟨B3, 0, none⟩) (e _ hlt.2.2)).trans h.save, (f _ hlt.2.1).trans h.fz⟩
  have hb1 : Bxs W1 B1 B2 B3 (joinS ts) := bxo (bxo hb o1 (Nat.le_refl _) (Nat.le_refl _)) o2 (by omega) (by rw [hs1]; omega)
  refine ⟨w.heap.size + 1, [{ target := .collected w.heap.size, args := #[] }], W1, { target := .fn (.func 176) #[.pointer (some ⟨B1, 0, none⟩), .pointer (some ⟨B2, 0, none⟩), .pointer (some ⟨B3, 0, none⟩)], args := #[.func (.yield (w.heap.size + 1)) #[] #[]] }, W1, 176,
    #[.func (.yield (w.heap.size + 1)) #[] #[], .pointer (some ⟨B1, 0, none⟩), .pointer (some ⟨B2, 0, none⟩), .pointer (some ⟨B3, 0, none⟩)], W1, ?_, ?_, ?_, ?_, fun h => (by cases h), ?_⟩
  · rw [← hW1, hrec]; exact run_enterLoop_outer _ _ _ _ _
  · simp only [resolve, hg]
    simp [go_sem]
  · intro f' _; trivial
  · simp [invoke, go_sem]
  · refine (split_iter (w.heap.size + 1) B1 B2 B3 m
      (fun ts W => I ts W ∧ w.heap.size + 1 < W.heap.size ∧ W.heap[w.heap.size + 1]? = some (.loop (rec .ready none)) ∧ W.heap[w.heap.size]? = some (.deferred (some [])))
      (fun W => Ix W ∧ W.heap[w.heap.size + 1]? = some (.loop (rec .done (some .ret))) ∧ W.heap[w.heap.size]? = some (.deferred (some []))) hB1 hB3
      (fun ts W v h => ⟨hIst _ _ _ h.1, by simpa [World.setCell] using h.2.1, (heap_setCell_other W ⟨B2, 0, none⟩ _ v (fun e => by have : w.heap.size + 1 = B2 := e; omega)).trans h.2.2.1, (heap_setCell_other W ⟨B2, 0, none⟩ _ v (fun e => by have : w.heap.size = B2 := e; omega)).trans h.2.2.2⟩)
      N hN ?_ ts hts hall hlen W1 ⟨hI1, (Array.getElem?_eq_some_iff.1 hL1).1, hL1, hK1⟩ hb1).mono ?_
    · rintro t r W hNt ⟨hi, hz, hl, hk⟩ hbx
      have hy := run_yield (P := Tryz.prog) (args := #[.string (toB t)]) hl (by rw [hrec]; rfl)
      rw [hrec] at hy
      rw [show ((#[p] : Array Tmp).zip #[Value.string (toB t)]).foldl (fun tmps (x : Tmp × Value) => tmps.setIfInBounds x.1 x.2) a.tmps = a.tmps.setIfInBounds p (.string (toB t)) by simp] at hy
      refine ⟨fn, a.tmps.setIfInBounds p (.string (toB t)), assign, body, hy, roundIn_of_wpIn hfn (hassign _ t W _ ?_)⟩
      refine ⟨_, run_beginRound hl (by rw [hrec]), ?_⟩
      have op := only_put W (w.heap.size + 1) (.loop { rec .ready none with state := .busy })
      have hl2 : (W.putObj (w.heap.size + 1) (.loop { rec .ready none with state := .busy })).heap[w.heap.size + 1]? = some (.loop { rec .ready none with state := .busy }) := World.putObj_heap_same hz
      have hk2 : (W.putObj (w.heap.size + 1) (.loop { rec .ready none with state := .busy })).heap[w.heap.size]? = some (.deferred (some [])) := (World.putObj_heap_other (by omega)).trans hk
      refine wpIn_mono (hbody _ t r _ hNt (hI _ _ _ _ hi op (by omega)) (bxo hbx op (by omega) (by omega))) ?_
      have fin : ∀ (jump : Option Code) (W3 : World), KeepF w.heap.size (W.putObj (w.heap.size + 1) (.loop { rec .ready none with state := .busy })) W3 →
          (Instr.endRound (w.heap.size + 1) jump).run Tryz.prog W3 = .ok (.bool jump.isNone) (W3.putObj (w.heap.size + 1) (.loop (rec (if jump.isNone then .ready else .done) jump))) ∧
          (W3.putObj (w.heap.size + 1) (.loop (rec (if jump.isNone then .ready else .done) jump))).heap[w.heap.size + 1]? = some (.loop (rec (if jump.isNone then .ready else .done) jump)) ∧
          (W3.putObj (w.heap.size + 1) (.loop (rec (if jump.isNone then .ready else .done) jump))).heap[w.heap.size]? = some (.deferred (some [])) ∧ w.heap.size + 1 < W3.heap.size := fun jump W3 hk3 => by
        have hl3 := hk3.same (by omega) hl2
        have := run_endRound (P := Tryz.prog) jump hl3
        rw [hrec] at this ⊢
        have hz3 := (Array.getElem?_eq_some_iff.1 hl3).1
        exact ⟨this, World.putObj_heap_same hz3, (World.putObj_heap_other (by omega)).trans (hk3.same (Nat.le_refl _) hk2), hz3⟩
      rintro e a3 W3 hp
      cases e with
      | normal =>
        obtain ⟨hi3, hb3, hk3⟩ := hp
        obtain ⟨hr, hl4, hk4, hz3⟩ := fin none W3 hk3
        have op3 := only_put W3 (w.heap.size + 1) (.loop (rec .ready none))
        exact ⟨_, _, hr, .inl ⟨rfl, ⟨hI _ _ _ _ hi3 op3 (by omega), by simpa using hz3, hl4, hk4⟩, bxo hb3 op3 (by omega) (by omega)⟩⟩
      | ret =>
        obtain ⟨hi3, hk3⟩ := hp
        obtain ⟨hr, hl4, hk4, hz3⟩ := fin (some .ret) W3 hk3
        exact ⟨_, _, hr, .inr ⟨rfl, hIx _ _ _ hi3 (only_put W3 (w.heap.size + 1) _) (by omega), hl4, hk4⟩⟩
      | exit id => exact hp.elim
      | goto t => exact hp.elim
      | panic ch => exact hp.elim
      | outgrown => exact hp.elim
    · rintro e W2 ⟨⟨v, rfl⟩, (⟨hi, _, hl, hk⟩ | ⟨hi, hl, hk⟩)⟩
      · exact ⟨none, _, by have := run_endLoop (P := Tryz.prog) hl (by rw [hrec]; simp); rw [hrec] at this; exact this, hdone _ (hI _ _ _ _ hi (only_put W2 (w.heap.size + 1) _) (by omega)) ((World.putObj_heap_other (by omega)).trans hk)⟩
      · exact ⟨some .ret, _, by have := run_endLoop (P := Tryz.prog) hl (by rw [hrec]; simp); rw [hrec] at this; exact this, hstop _ (hIx _ _ _ hi (only_put W2 (w.heap.size + 1) _) (by omega)) ((World.putObj_heap_other (by omega)).trans hk)⟩

end Go.Proofs.YtonejkomggpbbabGreatDoor
