/- Times, the reference: ParseTimes of what was printed. -/
import Derived.Test.YtlhaidibcocooaaGreatDoorTimesU
namespace Go.Proofs.YtlhaidibcocooaaGreatDoor
open Go.RowKit Go.Shelf

def lowN (i : Nat) : Nat := ((#[0, 0, 1, 1, 0] : Array Nat)[i]?).getD 0
def highN (i : Nat) : Nat := ((#[59, 23, 31, 12, 6] : Array Nat)[i]?).getD 0
def wkN (i : Nat) : Bool := i == 4
theorem consts_at (i : Nat) (hi : i < 5) : lowV i = .int .i64 (lowN i : Int) ∧ topV i = .int .i64 (topOf (highN i) (wkN i) : Int) ∧ topOf (highN i) (wkN i) < 64 ∧ highN i < 63 ∧ lowN i ≤ highN i ∧ highN i ≤ topOf (highN i) (wkN i) ∧ (wkN i = true → lowN i = 0 ∧ highN i = 6) := by
  have hh : i = 0 ∨ i = 1 ∨ i = 2 ∨ i = 3 ∨ i = 4 := by omega
  rcases hh with rfl | rfl | rfl | rfl | rfl <;> exact ⟨rfl, rfl, by decide, by decide, by decide, by decide, by decide⟩
/-- what the fields' parts are read as -/
def ReadI (L : Nat → List PK) (i j acc : Nat) : Prop := acc = orBits (lowN i) (topOf (highN i) (wkN i)) ((L i).take j) 0
theorem pkBits_lt {low top : Nat} {p : PK} (h : okPK low top p) (ht : top < 64) : pkBits low top p < 18446744073709551616 := by
  cases p with
  | num n => exact orL_lt _ 0 64 (fun k hk => by have := upL_lt n n 1 k hk; have := h.2; omega) (by decide)
  | range a b => exact orL_lt _ 0 64 (fun k hk => by have := upL_lt a b 1 k hk; have := h.2.2; omega) (by decide)
  | star => exact orL_lt _ 0 64 (fun k hk => by have := upL_lt low top 1 k hk; omega) (by decide)
  | starBy n => exact orL_lt _ 0 64 (fun k hk => by have := upL_lt low top n k hk; omega) (by decide)
theorem part_gives (L : Nat → List PK) (hne : ∀ i, i < 5 → L i ≠ []) (hok : ∀ i, i < 5 → ∀ p ∈ L i, okPK (lowN i) (topOf (highN i) (wkN i)) p) : PartGives (ReadI L) False (fun i => fieldT (L i)) := by
  intro W g1 g2 i j acc s hi hs hI hn hm
  obtain ⟨c1, c2, c3, _⟩ := consts_at i hi
  rw [(field_text (hne i hi) (hok i hi) c3).2, List.getElem?_map] at hs
  cases hp : (L i)[j]? with
  | none => rw [hp] at hs; cases hs
  | some p =>
    rw [hp] at hs
    have hs2 : toB (pkT p) = s := by simpa using hs
    subst hs2
    have hmem : p ∈ L i := List.mem_of_getElem? hp
    rw [c1, c2]
    refine (part_any (lowN i) (topOf (highN i) (wkN i)) p (nmV g1 g2 i) W (hok i hi p hmem) c3 hn hm).mono ?_
    rintro e w' ⟨rfl, hb⟩
    refine ⟨pkBits (lowN i) (topOf (highN i) (wkN i)) p, 0, rfl, pkBits_lt (hok i hi p hmem) c3, fun _ => ?_, fun h => absurd rfl h, hb⟩
    unfold ReadI at hI ⊢
    rw [List.take_add_one, hp]
    unfold orBits at hI ⊢
    rw [List.foldl_append, ← hI]
    rfl
theorem fieldK_at (a0 a1 a2 a3 a4 : Nat) (b5 b6 : Bool) (i : Nat) (hi : i < 5) (h0 : a0 < 18446744073709551616) (h1 : a1 < 18446744073709551616) (h2 : a2 < 18446744073709551616) (h3 : a3 < 18446744073709551616) (h4 : a4 < 18446744073709551616) : ∃ set sp any, set < 2 ^ 64 ∧ fieldK a0 a1 a2 a3 a4 b5 b6 i = shownK (lowN i) (highN i) (wkN i) set sp any ∧ (#[a0, a1, a2, a3, a4] : Array Nat)[i]? = some set := by
  have hh : i = 0 ∨ i = 1 ∨ i = 2 ∨ i = 3 ∨ i = 4 := by omega
  rcases hh with rfl | rfl | rfl | rfl | rfl
  · exact ⟨a0, _, _, h0, rfl, rfl⟩
  · exact ⟨a1, _, _, h1, rfl, rfl⟩
  · exact ⟨a2, _, _, h2, rfl, rfl⟩
  · exact ⟨a3, _, _, h3, rfl, rfl⟩
  · exact ⟨a4, _, _, h4, rfl, rfl⟩
theorem five_small (P : Nat → List UInt8) (h : ∀ k, k < 5 → (P k).length ≤ 400) : (five P).length ≤ 4096 := by
  rw [five_text]
  have a0 := h 0 (by decide)
  have a1 := h 1 (by decide)
  have a2 := h 2 (by decide)
  have a3 := h 3 (by decide)
  have a4 := h 4 (by decide)
  simp
  omega
/-- the printed text is read as the same times -/
theorem back_any (a0 a1 a2 a3 a4 : Nat) (b5 b6 : Bool) (w : World) (h0 : a0 < 18446744073709551616) (h1 : a1 < 18446744073709551616) (h2 : a2 < 18446744073709551616) (h3 : a3 < 18446744073709551616) (h4 : a4 < 18446744073709551616) (hall : ∀ j, j < 5 → (fieldK a0 a1 a2 a3 a4 b5 b6 j).isSome = true) (hm : MaxLenAt w) :
    Calls Tryz.prog 10 #[.string ⟨(Lib.join (((List.range 5).map (fieldB (fieldK a0 a1 a2 a3 a4 b5 b6))).map (·.data.toList)) [32]).toArray⟩] w fun e w' => e = .returned (.tuple #[.agg #[.int .u64 (a0 : Int), .int .u64 (a1 : Int), .int .u64 (a2 : Int), .int .u64 (a3 : Int), .int .u64 (a4 : Int), .bool b5, .bool b6], .int .i64 0]) ∧ Below w.heap.size w w' := by
  obtain ⟨K, hK⟩ : ∃ K, fieldK a0 a1 a2 a3 a4 b5 b6 = K := ⟨_, rfl⟩
  have hat := fun i hi => fieldK_at a0 a1 a2 a3 a4 b5 b6 i hi h0 h1 h2 h3 h4
  rw [hK] at hall hat
  rw [hK]
  have hL : ∀ i, i < 5 → K i = some ((K i).getD []) := fun i hi => by
    have := hall i hi
    cases h : K i with
    | none => rw [h] at this; cases this
    | some l => rfl
  have hne : ∀ i, i < 5 → (K i).getD [] ≠ [] := fun i hi => by
    obtain ⟨set, sp, any, hs, he, _⟩ := hat i hi
    exact (shown_text (he.symm.trans (hL i hi)) hs).1
  have hok : ∀ i, i < 5 → ∀ p ∈ (K i).getD [], okPK (lowN i) (topOf (highN i) (wkN i)) p := fun i hi => by
    obtain ⟨set, sp, any, hs, he, _⟩ := hat i hi
    obtain ⟨_, _, _, c4, c5, c6, _⟩ := consts_at i hi
    exact shown_ok (he.symm.trans (hL i hi)) hs c4 c5 c6
  have hback : ∀ i, i < 5 → ∀ s, (#[a0, a1, a2, a3, a4] : Array Nat)[i]? = some s → foldW (wkN i) (orBits (lowN i) (topOf (highN i) (wkN i)) ((K i).getD []) 0) = s := fun i hi s hs' => by
    obtain ⟨set, sp, any, hs, he, he2⟩ := hat i hi
    obtain ⟨_, _, _, c4, c5, c6, c7⟩ := consts_at i hi
    have e : set = s := by rw [he2] at hs'; exact Option.some.inj hs'
    rw [← e]
    exact shown_back (he.symm.trans (hL i hi)) hs c4 c5 c7
  have hokF : ∀ k, k < 5 → okField (fieldT ((K k).getD [])) := fun k hk => (field_text (hne k hk) (hok k hk) (consts_at k hk).2.2.1).1
  have hlen : (five fun i => fieldT ((K i).getD [])).length ≤ 4096 := five_small _ fun k hk => by
    obtain ⟨set, sp, any, hs, he, _⟩ := hat k hk
    exact (shown_text (he.symm.trans (hL k hk)) hs).2
  have hs2 : star0 (fieldT ((K 2).getD [])) = b5 := by
    have e := hL 2 (by decide)
    rw [← hK] at e
    rw [← hK]
    exact shown_star e h2
  have hs4 : star0 (fieldT ((K 4).getD [])) = b6 := by
    have e := hL 4 (by decide)
    rw [← hK] at e
    rw [← hK]
    exact shown_star e h4
  refine (parse_any (ReadI fun i => (K i).getD []) False (fun i => fieldT ((K i).getD [])) w (fun k _ => by unfold ReadI; simp [orBits]) hokF hlen hm (part_gives _ hne hok)).mono ?_
  rintro e w' ⟨⟨st, hst, rfl⟩ | ⟨hF, _⟩, hb⟩
  · refine ⟨?_, hb⟩
    have hset : ∀ i, i < 5 → ∀ s, (#[a0, a1, a2, a3, a4] : Array Nat)[i]? = some s → foldW (wkN i) (st i) = s := fun i hi s hs => by
      have h := (hst i hi).1
      unfold ReadI at h
      rw [(field_text (hne i hi) (hok i hi) (consts_at i hi).2.2.1).2, List.length_map, List.take_length] at h
      rw [h]
      exact hback i hi s hs
    have e0 : st 0 = a0 := by simpa [foldW, wkN] using hset 0 (by decide) a0 rfl
    have e1 : st 1 = a1 := by simpa [foldW, wkN] using hset 1 (by decide) a1 rfl
    have e2 : st 2 = a2 := by simpa [foldW, wkN] using hset 2 (by decide) a2 rfl
    have e3 : st 3 = a3 := by simpa [foldW, wkN] using hset 3 (by decide) a3 rfl
    have e4 : foldW true (st 4) = a4 := hset 4 (by decide) a4 rfl
    rw [e0, e1, e2, e3, e4, hs2, hs4]
  · exact hF.elim

end Go.Proofs.YtlhaidibcocooaaGreatDoor
