/- Times: the law's text: a number or a name. -/
import Derived.Test.YtlhaidibcocooaaGreatDoorTextA
namespace Go.Proofs.YtlhaidibcocooaaGreatDoor
open Go.RowKit Go.Shelf

set_option maxRecDepth 100000 in
set_option maxHeartbeats 3200000 in
theorem tok_nm (b bd gl gh gn k lo hi : Nat) (A : Option Addr) (n c : Nat) (NM : List ByteArray) (w : World) (hc : CE w b bd gl gh gn lo hi A n c NM) (hb : TB w b k) (hk : k ≤ 1000000) (h1 : lo ≤ hi) (h2 : hi ≤ 59) (hn : 0 < n) (hn2 : n ≤ 100) :
    Calls Tryz.prog 33 #[.pointer (some ⟨gn, 0, none⟩), .pointer (some ⟨bd, 0, none⟩), .pointer (some ⟨gl, 0, none⟩), .pointer (some ⟨gh, 0, none⟩)] w (TokGives b k lo hi NM w) := by
  have HC := Lib.hid hc
  have HB := Lib.hid hb
  have cn := hc.nm
  have cd := hc.d
  have hlen := hc.len
  have HR3 := Lib.hid (fun W (hW : TB W b k) => roll_t b k 3 W hW (by omega) (by decide) (by decide))
  have HR := Lib.hid (fun W (hW : TB W b (k + 1)) => roll_t b (k + 1) ((hi : Int) - (lo : Int) + 1) W hW (by omega) (by omega) (by omega))
  have HRn := Lib.hid (fun W (hW : TB W b (k + 1)) => roll_t b (k + 1) (n : Int) W hW (by omega) (by omega) (by omega))
  obtain ⟨g, rfl, _, _, _⟩ := hc.row hn
  have HS := Lib.hid (show ∀ W, (CE W b bd gl gh gn lo hi (some ⟨g, 0, none⟩) n c NM) → W.cell? ⟨bd, 0, none⟩ = some (.pointer (some ⟨b, 0, none⟩)) ∧ W.cell? ⟨gl, 0, none⟩ = some (.int .i64 (lo : Int)) ∧ W.cell? ⟨gh, 0, none⟩ = some (.int .i64 (hi : Int)) from fun W h => ⟨h.d, h.lo, h.hi⟩)
  have HS2 := Lib.hid (show ∀ W, (CE W b bd gl gh gn lo hi (some ⟨g, 0, none⟩) n c NM) → W.cell? ⟨bd, 0, none⟩ = some (.pointer (some ⟨b, 0, none⟩)) ∧ W.cell? ⟨gn, 0, none⟩ = some (.slice (some ⟨g, 0, none⟩) n c) from fun W h => ⟨h.d, h.nm⟩)
  have HRow : Hid (∀ W, (CE W b bd gl gh gn lo hi (some ⟨g, 0, none⟩) n c NM) → ∀ j, j < n → ∃ sr, sr ∈ NM ∧ W.cell? ⟨g, j, none⟩ = some (.string sr)) := Lib.hid (fun W h j hj => by
    obtain ⟨g', he, _, _, hcell⟩ := h.row hn
    injection he with he
    injection he with he
    subst he
    exact ⟨NM[j]'(by omega), List.getElem_mem _, hcell j (by omega)⟩)
  obtain ⟨Q, hQ⟩ : ∃ Q, TokGives b k lo hi NM w = Q := ⟨_, rfl⟩
  rw [hQ]
  have HQ := Lib.hid hQ
  have e1 : IntKind.i64.wrap ((hi : Int) - (lo : Int)) = (hi : Int) - (lo : Int) := IntWalk.i64_in _ (by omega)
  have e2 : IntKind.i64.wrap ((hi : Int) - (lo : Int) + 1) = (hi : Int) - (lo : Int) + 1 := IntWalk.i64_in _ (by omega)
  clear hQ hc hb hlen
  go_enter Tryz.func33, Tryz.ntmps33
  go_wp2_with fail
  refine (HR3.out _ HB.out).mono ?_
  rintro e w1 ⟨r3, rfl, hr3, hb1, ho1⟩
  have HCa := Lib.hid (HC.out.only ho1)
  have HBa := Lib.hid hb1
  have HOa := Lib.hid ho1
  clear hb1 ho1 cn cd HC HB
  by_cases hz : r3 = 0
  · subst hz
    go_upto_region 2 with fail
    have HC1 : Hid (CE w1.drew b bd gl gh gn lo hi (some ⟨g, 0, none⟩) n c NM) := Lib.hid (HCa.out.only ((Only.refl b w1).drewN 1))
    have HB1 : Hid (TB w1.drew b (k + 1)) := Lib.hid (HBa.out.keep ((Below.refl _ w1).drew))
    have HO1 : Hid (Only b w w1.drew) := Lib.hid (HOa.out.trans ((Only.refl b w1).drewN 1))
    obtain ⟨ca1, ca2⟩ := HS2.out _ HCa.out
    go_region_law (first
      | (go_simp; go_at_call 34; refine (HRn.out _ HB1.out).mono ?_; rintro e w2 ⟨r, rfl, hr, hb2, ho2⟩; have HC2 := Lib.hid (HC1.out.only ho2); have HB2 := Lib.hid hb2; have HO2 := Lib.hid (HO1.out.trans ho2); have hrn : r < n := (by omega); obtain ⟨sr, hsr, cr⟩ := HRow.out _ HC2.out r hrn; obtain ⟨cb1, cb2⟩ := HS2.out _ HC2.out; have HM := Lib.hid hsr; clear hb2 ho2 hsr))
    all_goals
      go_wp2_with fail
      go_ret
      rw [← HQ.out]
      exact ⟨_, rfl, .inr HM.out, HB2.out, HO2.out⟩
  · have hz2 : ((r3 : Int) == 0) = false := by rw [beq_eq_false_iff_ne]; omega
    go_upto_region 3 with fail
    have HC1 : Hid (CE w1.drew b bd gl gh gn lo hi (some ⟨g, 0, none⟩) n c NM) := Lib.hid (HCa.out.only ((Only.refl b w1).drewN 1))
    have HB1 : Hid (TB w1.drew b (k + 1)) := Lib.hid (HBa.out.keep ((Below.refl _ w1).drew))
    have HO1 : Hid (Only b w w1.drew) := Lib.hid (HOa.out.trans ((Only.refl b w1).drewN 1))
    go_region_held3 (fun W => W.cell? ⟨bd, 0, none⟩ = some (.pointer (some ⟨b, 0, none⟩)) ∧ W.cell? ⟨gl, 0, none⟩ = some (.int .i64 (lo : Int)) ∧ W.cell? ⟨gh, 0, none⟩ = some (.int .i64 (hi : Int))) (first | (with_reducible exact HS.out _ HC1.out) | (with_reducible exact HS.out _ HCa.out) | (with_reducible exact HS.out _ HC2.out)) (first
      | (go_at_call 34; refine (HR.out _ HB1.out).mono ?_; rintro e w2 ⟨r, rfl, hr, hb2, ho2⟩; have HC2 := Lib.hid (HC1.out.only ho2); have HB2 := Lib.hid hb2; have HO2 := Lib.hid (HO1.out.trans ho2); have hrn : lo + r ≤ hi := (by omega); have e3 : IntKind.i64.wrap ((lo : Int) + (r : Int)) = (lo : Int) + (r : Int) := IntWalk.i64_in _ (by omega); clear hb2 ho2 hr)
      | (go_at_call 35; refine (itoa_sum lo r (by omega) _).mono ?_; rintro e w3 ⟨rfl, rfl⟩))
    all_goals
      go_wp2_with fail
      rw [← HQ.out]
      exact ⟨_, rfl, .inl ⟨lo + r, by omega, hrn, rfl⟩, HB2.out, HO2.out⟩
theorem tok_any (b bd gl gh gn k lo hi : Nat) (A : Option Addr) (n c : Nat) (NM : List ByteArray) (w : World) (hc : CE w b bd gl gh gn lo hi A n c NM) (hb : TB w b k) (hk : k ≤ 1000000) (h1 : lo ≤ hi) (h2 : hi ≤ 59) (hn2 : n ≤ 100) :
    Calls Tryz.prog 33 #[.pointer (some ⟨gn, 0, none⟩), .pointer (some ⟨bd, 0, none⟩), .pointer (some ⟨gl, 0, none⟩), .pointer (some ⟨gh, 0, none⟩)] w (TokGives b k lo hi NM w) := by
  rcases Nat.eq_zero_or_pos n with h | h
  · exact tok_num b bd gl gh gn k lo hi A n c NM w hc hb hk h1 h2 h
  · exact tok_nm b bd gl gh gn k lo hi A n c NM w hc hb hk h1 h2 h hn2

end Go.Proofs.YtlhaidibcocooaaGreatDoor
