/- Shell states: copies of texts and of variables; variables of one's own. -/
import Derived.Test.YtiapondfajmkaaaGreatDoorSvD
import Derived.Test.YtiapondfajmkaaaGreatDoorShelf
namespace Go.Proofs.YtiapondfajmkaaaGreatDoor
open Go.RowKit

/-- slices.Clone: a row of the call's own, or nil -/
def Owned (w : World) (l : List ByteArray) (e : Ending) (w' : World) : Prop :=
  ∃ A c, e = .returned (.slice A l.length c) ∧ w'.ownsRow w.heap.size 9 1 (.slice A l.length c) l.length (l.map Value.string) ∧ Below w.heap.size w w'
theorem own_form {w : World} {base sz n : Nat} {T : TypeId} {v : Value} {xs : List Value} (h : w.ownsRow base T sz v n xs) : ∃ A c, v = .slice A n c := by
  rcases h.2 with ⟨rfl, h0⟩ | ⟨g, c, cur, rfl, _⟩
  · exact ⟨none, 0, by rw [h0]⟩
  · exact ⟨_, c, rfl⟩
theorem clone_any (l : List ByteArray) (v : Value) (w : World) (hv : SL w v l) (hn : l.length * 16 ≤ 140737488355328) :
    Calls Tryz.prog 19 #[v] w (Owned w l) := by
  obtain ⟨A, c, rfl, hc, _, h⟩ := hv
  by_cases h0 : 0 < l.length
  · obtain ⟨b, off, rfl, _, hcell⟩ := h h0
    exact (Tryz.slices_Clone_string b off l.length c l w (Nat.le_refl _) hn (fun j hj => by rw [hcell j hj]; simp [hj])).mono fun e w' ⟨v', he, ho, _, hb⟩ => by
      rw [List.take_length] at ho
      obtain ⟨A, c, rfl⟩ := own_form ho
      exact ⟨A, c, he, ho, hb⟩
  · obtain rfl : l = [] := List.length_eq_zero_iff.1 (by omega)
    cases A with
    | none => exact (Tryz.slices_Clone_string_nil 0 c w).mono fun e w' ⟨he, hw⟩ => ⟨none, 0, he, World.ownsRow_nil _ _ _ _, hw ▸ Below.refl _ _⟩
    | some a =>
      refine (Tryz.slices_Clone_string_zero a c w).mono fun e w' h => ?_
      obtain ⟨v', he, ho, _, hb⟩ := h
      obtain ⟨A, c, rfl⟩ := own_form ho
      exact ⟨A, c, he, ho, hb⟩
theorem prV_cells {w : World} {P : List VE} {b off : Nat} (h : ∀ j (h : j < P.length), w.cell? ⟨b, off + j * 6, none⟩ = some (.string P[j].1.nm) ∧ w.cell? ⟨b, off + j * 6 + 1, none⟩ = some (.string P[j].1.vl) ∧ w.cell? ⟨b, off + j * 6 + 2, none⟩ = some (.bool P[j].1.il) ∧ w.cell? ⟨b, off + j * 6 + 3, none⟩ = some (sv P[j].2) ∧ w.cell? ⟨b, off + j * 6 + 4, none⟩ = some (.bool P[j].1.ex) ∧ w.cell? ⟨b, off + j * 6 + 5, none⟩ = some (.bool P[j].1.fx)) (j : Nat) (u : Value) (hu : (prV P)[j]? = some u) : w.cell? ((⟨b, off, none⟩ : Addr).add j) = some u := by
  have hj : j < P.length * 6 := by rw [← prV_len]; exact (List.getElem?_eq_some_iff.1 hu).1
  obtain ⟨q0, q1, q2, q3, q4, q5⟩ := h (j / 6) (by omega)
  obtain ⟨e0, e1, e2, e3, e4, e5⟩ := prV_at P (j / 6) (by omega)
  rw [WideShapes.add_plain]
  have hm : j % 6 = 0 ∨ j % 6 = 1 ∨ j % 6 = 2 ∨ j % 6 = 3 ∨ j % 6 = 4 ∨ j % 6 = 5 := by omega
  rcases hm with h0 | h0 | h0 | h0 | h0 | h0
  · rw [show j / 6 * 6 = j by omega] at q0 e0
    rw [q0, ← hu, e0]
  · rw [show j / 6 * 6 + 1 = j by omega] at e1
    rw [show off + j / 6 * 6 + 1 = off + j by omega] at q1
    rw [q1, ← hu, e1]
  · rw [show j / 6 * 6 + 2 = j by omega] at e2
    rw [show off + j / 6 * 6 + 2 = off + j by omega] at q2
    rw [q2, ← hu, e2]
  · rw [show j / 6 * 6 + 3 = j by omega] at e3
    rw [show off + j / 6 * 6 + 3 = off + j by omega] at q3
    rw [q3, ← hu, e3]
  · rw [show j / 6 * 6 + 4 = j by omega] at e4
    rw [show off + j / 6 * 6 + 4 = off + j by omega] at q4
    rw [q4, ← hu, e4]
  · rw [show j / 6 * 6 + 5 = j by omega] at e5
    rw [show off + j / 6 * 6 + 5 = off + j by omega] at q5
    rw [q5, ← hu, e5]
/-- variables in memory, with their lists' slices -/
theorem VL.open {w : World} {A : Option Addr} {n c : Nat} {L : List VarV} (h : VL w (.slice A n c) L) : ∃ P : List VE, P.map Prod.fst = L ∧ n = P.length ∧ (∀ p ∈ P, SL w (sv p.2) p.1.ls) ∧ (A = none → P = []) ∧ ∀ ad, A = some ad → ∀ j u, (prV P)[j]? = some u → w.cell? (ad.add j) = some u := by
  obtain ⟨P, A', c', e, hc, hA, hm, hs, h⟩ := h
  injection e with e1 e2 e3
  subst e1 e2 e3
  refine ⟨P, hm, rfl, hs, fun hn => ?_, fun ad had j u hu => ?_⟩
  · rcases Nat.eq_zero_or_pos P.length with h0 | h0
    · exact List.length_eq_zero_iff.1 h0
    · obtain ⟨b, off, e, _⟩ := h h0
      rw [hn] at e
      cases e
  · have hj : j < P.length * 6 := by rw [← prV_len]; exact (List.getElem?_eq_some_iff.1 hu).1
    obtain ⟨b, off, e, _, h2⟩ := h (by omega)
    rw [had] at e
    injection e with e
    subst e
    exact prV_cells h2 j u hu
/-- variables of one's own -/
structure VO (B : Nat) (w : World) (v : Value) (P : List VE) : Prop where
  own : w.ownsRow B 32 6 v P.length (prV P)
  ls : ∀ p ∈ P, SL w (sv p.2) p.1.ls
theorem VO.vl {B : Nat} {w : World} {v : Value} {P : List VE} (h : VO B w v P) : VL w v (P.map Prod.fst) := VL.of_own h.own h.ls
theorem VO.keep {B : Nat} {w w' : World} {v : Value} {P : List VE} (h : VO B w v P) (hb : Below w.heap.size w w') : VO B w' v P :=
  ⟨h.own.kept (row := none) ⟨hb.os, hb.tape, hb.output, hb.size, fun k hk _ => hb.block k hk⟩ (by cases v.ownBlock <;> simp), fun p hp => (h.ls p hp).keep hb⟩
theorem VO.form {B : Nat} {w : World} {v : Value} {P : List VE} (h : VO B w v P) : ∃ A c, v = .slice A P.length c := own_form h.own
/-- a copy of variables -/
def CloneP (L : List VarV) (w : World) (e : Ending) (w' : World) : Prop :=
  ∃ (P : List VE) (A : Option Addr) (c : Nat), e = .returned (.slice A P.length c) ∧ P.map Prod.fst = L ∧ VO w.heap.size w' (.slice A P.length c) P ∧ Below w.heap.size w w'
theorem SL.lt {w : World} {s : SV} {l : List ByteArray} (h : SL w (sv s) l) (h0 : 0 < l.length) {ad : Addr} (hs : s.1 = some ad) : ad.block < w.heap.size := by
  obtain ⟨A, n, c⟩ := s
  obtain ⟨A', c', e, _, _, h⟩ := h
  injection e with e1 _ _
  obtain ⟨b, off, hA, hlt, _⟩ := h h0
  simp only [] at hs
  rw [← e1, hs] at hA
  injection hA with hA
  rw [hA]
  exact hlt
set_option maxRecDepth 100000 in
set_option maxHeartbeats 800000 in
theorem cloneV_any (L : List VarV) (A : Option Addr) (n c : Nat) (w : World) (hv : VL w (.slice A n c) L) (hn : L.length ≤ 2000) :
    Calls Tryz.prog 86 #[.slice A n c] w (CloneP L w) := by
  have kn := fun (w : World) (a : Option Addr) (n c n' c' : Nat) => Lib.run_eql_slice_nil (P := Tryz.prog) w 24 32 a n c n' c' Tryz.underlying24
  obtain ⟨P, hP, rfl, hls, hnil, hc⟩ := VL.open hv
  have hPl : P.length ≤ 2000 := by rw [← hP, List.length_map] at hn; exact hn
  have HFIN := Lib.hid (fun (A' : Option Addr) (c' : Nat) (w' : World) (ho : w'.ownsRow w.heap.size 32 6 (.slice A' P.length c') P.length (prV P)) (hb : Below w.heap.size w w') =>
    (show CloneP L w (.returned (.slice A' P.length c')) w' from ⟨P, A', c', rfl, hP, ⟨ho, fun p hp => (hls p hp).keep hb⟩, hb⟩))
  clear hv hls hP hn
  generalize CloneP L w = Q at *
  cases A with
  | none =>
    obtain rfl : P = [] := hnil rfl
    have HF := Lib.hid (HFIN.out none 0 w (World.ownsRow_nil _ _ _ _) (Below.refl _ _))
    clear hc
    go_enter Tryz.func86, Tryz.ntmps86
    go_wp2
    exact HF.out
  | some ad =>
    obtain ⟨i0, hi, hz0, hz1, hz2⟩ := info_parts varInfo
    have hlt : ∀ j u, (prV P)[j]? = some u → (w.alloc (.cells #[] 32)).cell? (ad.add j) = some u := fun j u hu => by
      have h1 := hc ad rfl j u hu
      rw [World.cell?_alloc_lt _ _ _ (World.block_lt_of_cell? w _ h1)]
      exact h1
    have HLT := Lib.hid hlt
    have hm := Lib.hid (World.ownsRow_made (base := w.heap.size) (e := 32) (size := 6) w #[] 0 (Nat.le_refl _) (by unfold maxLen; omega) rfl)
    clear hc hlt hnil
    go_enter Tryz.func86, Tryz.ntmps86
    go_wp2_with (at_builtin; refine wpList_append_own _ rfl _ _ 24 rfl w.heap.size 32 i0 _ 6 72 Tryz.underlying24 hi hz0 hz1 hz2 rfl (by decide) _ 0 [] rfl hm.out ad P.length c (prV P) rfl (prV_len P) HLT.out (prV_one P) ?c3 ?c4 ?c5 ?_)
    case c3 => unfold maxLen; omega
    case c4 => omega
    case c5 => simp
    intro v5 w5 hown5 hg5 _
    obtain ⟨A5, c5, rfl⟩ := own_form hown5
    have HF := Lib.hid (HFIN.out A5 c5 w5 hown5 (((Below.refl _ w).alloc (Nat.le_refl _) _).grown hg5 (by simp) (fun g hg => by simp [Value.ownBlock] at hg; omega)))
    clear hown5 hg5
    go_wp2
    exact HF.out
end Go.Proofs.YtiapondfajmkaaaGreatDoor
