/- Arithmetic expressions: the program's printer: variables and elements. -/
import Derived.Test.YtiigclkebnmopaaGreatDoorArPrD
namespace Go.Proofs.YtiigclkebnmopaaGreatDoor
open Go.RowKit Go.Shelf

theorem exa_pf {B b : Nat} {w w' : World} {A : Option Addr} {l : List Ex} (h : ExA (fun g => g < B) w A l) (hf : PF B b w w') (hB : B ≤ b) : ExA (fun g => g < B) w' A l := fun h0 => by
  obtain ⟨g, off, h1, h2, h3, h4⟩ := h h0
  have hk : ∀ g, g < B → g < w.heap.size → w'.heap[g]? = w.heap[g]? := fun g hg hl => hf.block g hl (by omega) (.inl hg)
  exact ⟨g, off, h1, h2, Nat.lt_of_lt_of_le h3 hf.size, ExL.keep (P := fun g => g < B) (Q := fun g => g < B) hf.size (fun g hP hg => ⟨hk g hP hg, hP⟩) (hk g h2 h3) l h4⟩
set_option maxRecDepth 100000 in
set_option maxHeartbeats 6400000 in
theorem cnt_any {B b kx ky : Nat} {op nm : List UInt8} {n : Int} {A : Option Addr} {k c : Nat} {L : List UInt8} {bad : Bool} {w0 W : World} (h : SE B b kx ky op n nm A k c L bad w0 W) (m : Int) :
    Calls Tryz.prog 83 #[.int .i64 m, .pointer (some ⟨kx, 0, none⟩), .pointer (some ⟨ky, 0, none⟩)] W fun e W' => e = .returned (.bool ((k : Int) == m)) ∧ SE B b kx ky op n nm A k c L (bad || !((k : Int) == m)) w0 W' := by
  have HS := Lib.hid h
  clear h
  obtain ⟨c0, c1, c2, c3, c4, l1, l2, l3⟩ := HS.out.look
  go_enter Tryz.func83, Tryz.ntmps83
  go_wp2_with fail
  refine (need_any B b L bad ((k : Int) == m) _ HS.out.pr).mono ?_
  rintro e w2 ⟨rfl, hp2, hf2⟩
  have HS2 := Lib.hid (HS.out.step hp2 hf2)
  clear hp2 hf2
  go_wp2_with fail
  go_ret
  exact ⟨rfl, HS2.out⟩

set_option maxRecDepth 100000 in
set_option maxHeartbeats 6400000 in
theorem pe_v (w0 : World) (B b : Nat) (h0 : W0 w0 B b) (n : Int) (nm : List UInt8) (l : List Ex) : PE w0 B b (.mk [118] n nm l) (varS nm) false := by
  intro v w L bad hx hp hB hlen
  obtain ⟨op, hop⟩ : ∃ op, ([118] : List UInt8) = op := ⟨_, rfl⟩
  rw [hop] at hx
  obtain ⟨A, c, rfl, _, hA⟩ := hx.parts
  have HOp := Lib.hid hop.symm
  have f0 : ((toB op).toList == [110]) = false := by rw [toB_toList, HOp.out]; rfl
  have f1 : ((toB op).toList == [118]) = true := by rw [toB_toList, HOp.out]; rfl
  have hBs : B ≤ w.heap.size := by have := hB.size; rw [h0.size] at this; exact this
  have HS := Lib.hid (SE.start (op := op) (nm := nm) (n := n) (A := A) (k := l.length) (c := c) hp hBs)
  have HBW := Lib.hid (fun W (hf : PF B b w W) => hB.trans (below_PF hf h0.le hBs))
  have HXA := Lib.hid (fun W (hf : PF B b w W) => exa_pf hA hf h0.le)
  have hsz := toB_size nm
  have hq := hlen
  clear hop hx hp hA
  go_enter Tryz.func42, Tryz.ntmps42
  go_upto_region 1 with fail
  generalize (w.alloc (.cells #[.pointer (some ⟨b, 0, none⟩)] 80)).alloc (.cells #[.string (toB op), .int .i64 n, .string (toB nm), .slice A l.length c] 25) = w1 at *
  obtain ⟨c0, c1, c2, c3, c4, l1, l2, l3⟩ := HS.out.look
  by_cases hn : isNm nm = true
  · have HV := Lib.hid (show varS nm = nm by unfold varS; rw [if_pos hn])
    have HN := Lib.hid hn
    clear hn
    go_wp2_with fail
    refine (isName_any nm _).mono ?_
    rintro e w2 ⟨rfl, rfl⟩
    rw [HN.out]
    go_upto_region 9 with fail
    go_region_law (first
      | (go_simp; go_at_call 85; refine (ws_any B b (L) (nm) _ _ HS.out.drew.pr (by rw [HV.out] at hlen; (try simp at hlen); (try simp); omega) HS.out.drew.ne.2.2.1).mono ?_; rintro e w4 ⟨rfl, hp4, hf4⟩; have HS4 := Lib.hid (HS.out.drew.step hp4 hf4); clear hp4 hf4))
    all_goals
      go_wp2_with fail
      exact bodyPost_ret (results_none rfl _ _ _) rfl ⟨rfl, by rw [HV.out, Bool.or_false]; exact HS4.out.pr, HS4.out.pf⟩
  · have HN := Lib.hid (show isNm nm = false by simpa using hn)
    by_cases h1 : 1 < nm.length
    · have HV := Lib.hid (show varS nm = 36 :: 123 :: (nm ++ [125]) by unfold varS; rw [if_neg hn, if_pos h1])
      have hk1 : ¬ 9223372036854775807 < 2 + nm.length := by rw [HV.out] at hlen; simp at hlen; omega
      have hk2 : ¬ 9223372036854775807 < 2 + nm.length + 1 := by rw [HV.out] at hlen; simp at hlen; omega
      clear hn
      have HC := Lib.hid (show (⟨#[36, 123]⟩ : ByteArray) ++ toB nm ++ ⟨#[125]⟩ = toB (36 :: 123 :: (nm ++ [125])) by show toB [36, 123] ++ toB nm ++ toB [125] = _; rw [toB_app, toB_app]; rfl)
      go_wp2_with fail
      refine (isName_any nm _).mono ?_
      rintro e w2 ⟨rfl, rfl⟩
      rw [HN.out]
      go_upto_region 11 with fail
      go_region_law (first
        | (go_simp; go_at_call 85; rw [HC.out]; refine (ws_any B b (L) (36 :: 123 :: (nm ++ [125])) _ _ HS.out.drew.pr (by rw [HV.out] at hlen; (try simp at hlen); (try simp); omega) HS.out.drew.ne.2.2.1).mono ?_; rintro e w4 ⟨rfl, hp4, hf4⟩; have HS4 := Lib.hid (HS.out.drew.step hp4 hf4); clear hp4 hf4))
      all_goals
        go_wp2_with fail
        exact bodyPost_ret (results_none rfl _ _ _) rfl ⟨rfl, by rw [HV.out, Bool.or_false]; exact HS4.out.pr, HS4.out.pf⟩
    · have HV := Lib.hid (show varS nm = 36 :: nm by unfold varS; rw [if_neg hn, if_neg h1])
      have hk1 : ¬ 9223372036854775807 < 1 + nm.length := by rw [HV.out] at hlen; simp at hlen; omega
      clear hn
      have HC := Lib.hid (show (⟨#[36]⟩ : ByteArray) ++ toB nm = toB (36 :: nm) by show toB [36] ++ toB nm = _; rw [toB_app]; rfl)
      go_wp2_with fail
      refine (isName_any nm _).mono ?_
      rintro e w2 ⟨rfl, rfl⟩
      rw [HN.out]
      go_upto_region 7 with fail
      go_region_law (first
        | (go_simp; go_at_call 85; rw [HC.out]; refine (ws_any B b (L) (36 :: nm) _ _ HS.out.drew.pr (by rw [HV.out] at hlen; (try simp at hlen); (try simp); omega) HS.out.drew.ne.2.2.1).mono ?_; rintro e w4 ⟨rfl, hp4, hf4⟩; have HS4 := Lib.hid (HS.out.drew.step hp4 hf4); clear hp4 hf4))
      all_goals
        go_wp2_with fail
        exact bodyPost_ret (results_none rfl _ _ _) rfl ⟨rfl, by rw [HV.out, Bool.or_false]; exact HS4.out.pr, HS4.out.pf⟩

end Go.Proofs.YtiigclkebnmopaaGreatDoor
