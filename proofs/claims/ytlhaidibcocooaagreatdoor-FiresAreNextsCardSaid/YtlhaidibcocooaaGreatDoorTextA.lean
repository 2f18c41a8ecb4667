/- Times: the law's text: numbers and names. -/
import Derived.Test.YtlhaidibcocooaaGreatDoorTimesZ
import Derived.Test.YtlhaidibcocooaaGreatDoorRoll
import Derived.Deep.RegionHeld3
namespace Go.Proofs.YtlhaidibcocooaaGreatDoor
open Go.RowKit Go.Shelf

/-- the dice in their box, at most k rolls made -/
def TB (w : World) (b k : Nat) : Prop := ∃ A n c i left, DW w b A n c i left ∧ n ≤ 9223372036854775807 ∧ 0 ≤ i ∧ i ≤ (k : Int)
theorem TB.lt {w : World} {b k : Nat} (h : TB w b k) : b < w.heap.size := by
  obtain ⟨A, n, c, i, left, h1, _⟩ := h
  exact (Array.getElem?_eq_some_iff.1 h1.box).1
theorem TB.keep {w w' : World} {b k : Nat} (h : TB w b k) (hb : Below w.heap.size w w') : TB w' b k := by
  have hlt := h.lt
  obtain ⟨A, n, c, i, left, h1, h2⟩ := h
  exact ⟨A, n, c, i, left, h1.only (Only.of hb (Nat.le_refl _)) ((hb.block b hlt).trans h1.box), h2⟩
theorem TB.more {w : World} {b k m : Nat} (h : TB w b k) (hm : k ≤ m) : TB w b m := by
  obtain ⟨A, n, c, i, left, h1, h2, h3, h4⟩ := h
  exact ⟨A, n, c, i, left, h1, h2, h3, by omega⟩
theorem roll_t (b k : Nat) (m : Int) (w : World) (h : TB w b k) (hk : k ≤ 4611686018427387904) (h1 : 1 ≤ m) (h2 : m ≤ 1000000) :
    Calls Tryz.prog 34 #[.pointer (some ⟨b, 0, none⟩), .int .i64 m] w fun e w' => ∃ r : Nat, e = .returned (.int .i64 (r : Int)) ∧ (r : Int) < m ∧ TB w' b (k + 1) ∧ Only b w w' := by
  obtain ⟨A, n, c, i, left, hd, h3, h4, h5⟩ := h
  refine (roll_any b A n c i left m w hd h3 h4 (by omega) h1 h2).mono ?_
  rintro e w' ⟨r, i', rfl, hr1, hr2, hi1, hi2, hd', ho⟩
  obtain ⟨q, rfl⟩ := Int.eq_ofNat_of_zero_le hr1
  exact ⟨q, rfl, hr2, ⟨A, n, c, i', left, hd', h3, by omega, by omega⟩, ho⟩
/-- what the inner function has caught -/
structure CE (w : World) (b bd gl gh gn : Nat) (lo hi : Int) (A : Option Addr) (n c : Nat) (NM : List ByteArray) : Prop where
  d : w.cell? ⟨bd, 0, none⟩ = some (.pointer (some ⟨b, 0, none⟩))
  lo : w.cell? ⟨gl, 0, none⟩ = some (.int .i64 lo)
  hi : w.cell? ⟨gh, 0, none⟩ = some (.int .i64 hi)
  nm : w.cell? ⟨gn, 0, none⟩ = some (.slice A n c)
  len : n = NM.length
  row : 0 < n → ∃ g, A = some ⟨g, 0, none⟩ ∧ g < w.heap.size ∧ g ≠ b ∧ ∀ j (h : j < NM.length), w.cell? ⟨g, j, none⟩ = some (.string NM[j])
  ne : bd ≠ b ∧ gl ≠ b ∧ gh ≠ b ∧ gn ≠ b
  lt : bd < w.heap.size ∧ gl < w.heap.size ∧ gh < w.heap.size ∧ gn < w.heap.size
theorem CE.only {w w' : World} {b bd gl gh gn : Nat} {lo hi : Int} {A : Option Addr} {n c : Nat} {NM : List ByteArray} (h : CE w b bd gl gh gn lo hi A n c NM) (ho : Only b w w') : CE w' b bd gl gh gn lo hi A n c NM := by
  have key : ∀ g j, g < w.heap.size → g ≠ b → w'.cell? ⟨g, j, none⟩ = w.cell? ⟨g, j, none⟩ := fun g j hg hgb => World.cell?_of_block (a := ⟨g, j, none⟩) (ho.block g hg hgb)
  refine ⟨(key _ _ h.lt.1 h.ne.1).trans h.d, (key _ _ h.lt.2.1 h.ne.2.1).trans h.lo, (key _ _ h.lt.2.2.1 h.ne.2.2.1).trans h.hi, (key _ _ h.lt.2.2.2 h.ne.2.2.2).trans h.nm, h.len, fun hn => ?_, h.ne, ⟨Nat.lt_of_lt_of_le h.lt.1 ho.size, Nat.lt_of_lt_of_le h.lt.2.1 ho.size, Nat.lt_of_lt_of_le h.lt.2.2.1 ho.size, Nat.lt_of_lt_of_le h.lt.2.2.2 ho.size⟩⟩
  obtain ⟨g, rfl, hg, hgb, hc⟩ := h.row hn
  exact ⟨g, rfl, Nat.lt_of_lt_of_le hg ho.size, hgb, fun j hj => (key g j hg hgb).trans (hc j hj)⟩

/-- a number between two bounds, or one of some names -/
def TokT (lo hi : Nat) (NM : List ByteArray) (s : ByteArray) : Prop := (∃ q, lo ≤ q ∧ q ≤ hi ∧ s = toB (Lib.decDigits q)) ∨ s ∈ NM
def TokGives (b k lo hi : Nat) (NM : List ByteArray) (w : World) (e : Ending) (w' : World) : Prop := ∃ s : ByteArray, e = .returned (.string s) ∧ TokT lo hi NM s ∧ TB w' b (k + 2) ∧ Only b w w'
theorem itoa_sum (lo r : Nat) (h : lo + r < 100) (W : World) : Calls Tryz.prog 35 #[.int .i64 ((lo : Int) + (r : Int))] W fun e w' => e = .returned (.string (toB (Lib.decDigits (lo + r)))) ∧ w' = W := by
  have := Tryz.strconv_Itoa_small (lo + r) h W
  rw [show ((lo + r : Nat) : Int) = (lo : Int) + (r : Int) by omega] at this
  exact this
set_option maxRecDepth 100000 in
set_option maxHeartbeats 3200000 in
theorem tok_num (b bd gl gh gn k lo hi : Nat) (A : Option Addr) (n c : Nat) (NM : List ByteArray) (w : World) (hc : CE w b bd gl gh gn lo hi A n c NM) (hb : TB w b k) (hk : k ≤ 1000000) (h1 : lo ≤ hi) (h2 : hi ≤ 59) (hn : n = 0) :
    Calls Tryz.prog 33 #[.pointer (some ⟨gn, 0, none⟩), .pointer (some ⟨bd, 0, none⟩), .pointer (some ⟨gl, 0, none⟩), .pointer (some ⟨gh, 0, none⟩)] w (TokGives b k lo hi NM w) := by
  have HC := Lib.hid hc
  have HB := Lib.hid hb
  have cn := hc.nm
  subst hn
  have HR := Lib.hid (fun W (hW : TB W b k) => roll_t b k ((hi : Int) - (lo : Int) + 1) W hW (by omega) (by omega) (by omega))
  have HS := Lib.hid (show ∀ W, (CE W b bd gl gh gn lo hi A 0 c NM) → W.cell? ⟨bd, 0, none⟩ = some (.pointer (some ⟨b, 0, none⟩)) ∧ W.cell? ⟨gl, 0, none⟩ = some (.int .i64 (lo : Int)) ∧ W.cell? ⟨gh, 0, none⟩ = some (.int .i64 (hi : Int)) from fun W h => ⟨h.d, h.lo, h.hi⟩)
  obtain ⟨Q, hQ⟩ : ∃ Q, TokGives b k lo hi NM w = Q := ⟨_, rfl⟩
  rw [hQ]
  have HQ := Lib.hid hQ
  have e1 : IntKind.i64.wrap ((hi : Int) - (lo : Int)) = (hi : Int) - (lo : Int) := IntWalk.i64_in _ (by omega)
  have e2 : IntKind.i64.wrap ((hi : Int) - (lo : Int) + 1) = (hi : Int) - (lo : Int) + 1 := IntWalk.i64_in _ (by omega)
  clear hQ hc hb
  go_enter Tryz.func33, Tryz.ntmps33
  go_upto_region 3 with fail
  have HC1 : Hid (CE w.drew b bd gl gh gn lo hi A 0 c NM) := Lib.hid (HC.out.only ((Only.refl b w).drewN 1))
  have HB1 : Hid (TB w.drew b k) := Lib.hid (HB.out.keep ((Below.refl _ w).drew))
  have HO1 : Hid (Only b w w.drew) := Lib.hid ((Only.refl b w).drewN 1)
  go_region_held3 (fun W => W.cell? ⟨bd, 0, none⟩ = some (.pointer (some ⟨b, 0, none⟩)) ∧ W.cell? ⟨gl, 0, none⟩ = some (.int .i64 (lo : Int)) ∧ W.cell? ⟨gh, 0, none⟩ = some (.int .i64 (hi : Int))) (first | (with_reducible exact HS.out _ HC1.out) | (with_reducible exact HS.out _ HC.out) | (with_reducible exact HS.out _ HC2.out)) (first
    | (go_at_call 34; refine (HR.out _ HB1.out).mono ?_; rintro e w2 ⟨r, rfl, hr, hb2, ho2⟩; have HC2 := Lib.hid (HC1.out.only ho2); have HB2 := Lib.hid hb2; have HO2 := Lib.hid (HO1.out.trans ho2); have hrn : lo + r ≤ hi := (by omega); have e3 : IntKind.i64.wrap ((lo : Int) + (r : Int)) = (lo : Int) + (r : Int) := IntWalk.i64_in _ (by omega); clear hb2 ho2 hr)
    | (go_at_call 35; refine (itoa_sum lo r (by omega) _).mono ?_; rintro e w3 ⟨rfl, rfl⟩))
  all_goals
    go_wp2_with fail
    rw [← HQ.out]
    exact ⟨_, rfl, .inl ⟨lo + r, by omega, hrn, rfl⟩, HB2.out.more (by omega), HO2.out⟩

end Go.Proofs.YtlhaidibcocooaaGreatDoor
