/- Times, the reference: any part of a field that is shown is read. (Begun; see NOTES.md.) -/
import Derived.Test.YtlhaidibcocooaaGreatDoorTimesM
namespace Go.Proofs.YtlhaidibcocooaaGreatDoor
open Go.RowKit

def okPK (low top : Nat) : PK → Prop
  | .num n => low ≤ n ∧ n ≤ top
  | .range a b => low ≤ a ∧ a ≤ b ∧ b ≤ top
  | .star => low ≤ top
  | .starBy n => low ≤ top ∧ 1 ≤ n ∧ n < 100
theorem part_any (low top : Nat) (p : PK) (v : Value) (w : World) (h : okPK low top p) (hh : top < 64) (hn : NmAt w v) (hm : MaxLenAt w) :
    Calls Tryz.prog 30 #[.agg #[.int .i64 (low : Int), .int .i64 (top : Int), v], .string ⟨(pkT p).toArray⟩] w fun e w' => e = .returned (.tuple #[.int .u64 (pkBits low top p : Int), .int .i64 0]) ∧ Below w.heap.size w w' := by
  have hv : ∃ A l c, v = .slice A l c := by
    obtain ⟨A, c, NM, rfl, _⟩ := hn
    exact ⟨_, _, _, rfl⟩
  cases p with
  | num n => exact part_num low top n v w h.1 h.2 hh hn hm
  | range a b => exact part_range low top a b v w h.1 h.2.1 h.2.2 hh hn hm
  | star => exact part_star low top v w h hh hv hm
  | starBy n => exact part_starBy low top n v w h.1 hh h.2.1 h.2.2 hv hm
/-- all parts that are shown are of that kind -/
theorem shown_ok {low high : Nat} {wk : Bool} {set : Nat} {special any : Bool} {l : List PK} (h : shownK low high wk set special any = some l) (hset : set < 2 ^ 64) (hh : high < 63) (hlh : low ≤ high) (ht : high ≤ topOf high wk) : ∀ p ∈ l, okPK low (topOf high wk) p := by
  have hall : allN low high < 2 ^ 64 := orL_lt _ 0 64 (fun n hn => by have := upL_lt low high 1 n hn; omega) (by decide)
  have allbit : ∀ k, (allN low high).testBit k = true → low ≤ k ∧ k ≤ high := fun k => by
    unfold allN
    rw [orL_bit]
    simp [upL_one _ low high k (Nat.le_refl _)]
  unfold shownK at h
  split at h
  · cases h
  rename_i h1
  have h1b : subN set (allN low high) = 0 := by
    rcases Nat.eq_zero_or_pos (subN set (allN low high)) with hz | hz
    · exact hz
    · exact absurd (.inr (by omega)) h1
  have hsub : ∀ k, set.testBit k = true → low ≤ k ∧ k ≤ high := fun k hk => allbit k (subN_zero hset hall h1b k hk)
  have hlist : ∀ s, (∀ k, s.testBit k = true → low ≤ k ∧ k ≤ high) → ∀ p ∈ listK s, okPK low (topOf high wk) p := fun s hs p hp => by
    obtain ⟨q, hq, rfl⟩ := List.mem_map.1 hp
    have hr := partsL_range s 64 0 q hq
    have b1 := hs q.1 ((partsL_bits s 64 0 (by omega) q.1).1 ⟨q, hq, Nat.le_refl _, hr.2.1⟩).2.2
    have b2 := hs q.2 ((partsL_bits s 64 0 (by omega) q.2).1 ⟨q, hq, hr.2.1, Nat.le_refl _⟩).2.2
    unfold pkOf
    split
    · exact ⟨b1.1, by omega⟩
    · exact ⟨b1.1, hr.2.1, by omega⟩
  split at h
  · have hl : [PK.star] = l := by simpa using h
    subst hl
    intro p hp
    rw [List.mem_singleton.1 hp]
    show low ≤ topOf high wk
    omega
  · split at h
    · have hl : listK set = l := by simpa using h
      subst hl
      exact hlist set hsub
    · cases ht2 : tryBy low (topOf high wk) wk set 99 1 with
      | none => rw [ht2] at h; cases h
      | some n =>
        rw [ht2] at h
        have hl : PK.starBy n :: listK (subN set (stepN low (topOf high wk) wk n)) = l := by simpa using h
        subst hl
        obtain ⟨hn1, hn2, _⟩ := tryBy_some ht2
        intro p hp
        rcases List.mem_cons.1 hp with rfl | hp
        · exact ⟨by omega, hn1, by omega⟩
        · refine hlist _ (fun k hk => hsub k ?_) p hp
          have : (subN set (stepN low (topOf high wk) wk n)).testBit k = true := hk
          unfold subN at this
          rw [Nat.testBit_and, Bool.and_eq_true] at this
          exact this.1

end Go.Proofs.YtlhaidibcocooaaGreatDoor
