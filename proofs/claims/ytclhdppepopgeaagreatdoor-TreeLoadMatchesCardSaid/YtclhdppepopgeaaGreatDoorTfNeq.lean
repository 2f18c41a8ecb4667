/- The tree's lists, the reference: an entry compared with one that has a path and a Same alone. -/
import Derived.Test.YtclhdppepopgeaaGreatDoorTrRight
namespace Go.Proofs.YtclhdppepopgeaaGreatDoor
open Go.RowKit

theorem right_fields (z : FE) (hs : z.same ≠ noneB) : rightB z = (decide (z.kind = 0) && (decide (z.mode = 0) && (decide (z.user = 0) && (decide (z.group = 0) && (decide (z.text = noneB) && decide (z.changed = 0)))))) := by
  unfold rightB
  rw [if_pos hs, Bool.eq_iff_iff]
  simp only [Bool.and_eq_true, decide_eq_true_eq]
  constructor
  · intro h
    rw [h]
    exact ⟨rfl, rfl, rfl, rfl, rfl, rfl⟩
  · rintro ⟨h2, h3, h4, h5, h6, h7⟩
    obtain ⟨p, k, m, u, g, t, c, s⟩ := z
    dsimp only at h2 h3 h4 h5 h6 h7 ⊢
    subst h2 h3 h4 h5 h6 h7
    rfl
set_option maxRecDepth 100000 in
set_option maxHeartbeats 3200000 in
theorem neq_fe (z : FE) (hs : z.same ≠ noneB) (W : World) :
    (binOp BinOp.neq 33 (feV z) (.agg #[.string z.path, .int .i64 0, .int .i64 0, .int .i64 0, .int .i64 0, .string ⟨#[]⟩, .int .i64 0, .string z.same])).run Tryz.prog W = .ok (.bool (!rightB z)) W := by
  have hR := right_fields z hs
  rw [hR]
  obtain ⟨p, k, m, u, g, t, c, s⟩ := z
  dsimp only
  clear hR hs
  have htb : (t.toList == []) = decide (t = noneB) := empty_dec t
  generalize decide (t = noneB) = bt at *
  by_cases hk : k = 0
  · subst hk
    by_cases hm : m = 0
    · subst hm
      by_cases hu : u = 0
      · subst hu
        by_cases hg : g = 0
        · subst hg
          cases bt with
          | true =>
            by_cases hc : c = 0
            · subst hc
              go_simp
            · have hb : (c == 0) = false := beq_eq_false_iff_ne.2 hc
              go_simp
          | false => go_simp
        · have hb : (g == 0) = false := beq_eq_false_iff_ne.2 hg
          go_simp
      · have hb : (u == 0) = false := beq_eq_false_iff_ne.2 hu
        go_simp
    · have hb : (m == 0) = false := beq_eq_false_iff_ne.2 hm
      go_simp
  · have hb : (k == 0) = false := beq_eq_false_iff_ne.2 hk
    go_simp
end Go.Proofs.YtclhdppepopgeaaGreatDoor
