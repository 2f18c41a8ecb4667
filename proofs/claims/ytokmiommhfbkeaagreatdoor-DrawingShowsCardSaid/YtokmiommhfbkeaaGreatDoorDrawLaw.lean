/- Plain lists: how far two texts agree, and what makes a terminal show another row. -/
import Derived.Test.YtokmiommhfbkeaaGreatDoorDraw
namespace Go.Proofs.YtokmiommhfbkeaaGreatDoor
open Go.RowKit

/-- how many bytes two texts have in common at their begin -/
def comm : List UInt8 → List UInt8 → Nat
  | x :: xs, y :: ys => if x = y then comm xs ys + 1 else 0
  | _, _ => 0
theorem comm_le : ∀ (r t : List UInt8), comm r t ≤ r.length ∧ comm r t ≤ t.length
  | [], _ => by simp [comm]
  | _ :: _, [] => by simp [comm]
  | x :: xs, y :: ys => by
    have h := comm_le xs ys
    unfold comm; split
    · simp; omega
    · simp
theorem comm_step : ∀ (r t : List UInt8) (k : Nat) (c : UInt8), k ≤ comm r t → r[k]? = some c → t[k]? = some c → k + 1 ≤ comm r t
  | [], _, k, c, _, h, _ => by simp at h
  | _ :: _, [], k, c, _, _, h => by simp at h
  | x :: xs, y :: ys, 0, c, _, h1, h2 => by
    simp at h1 h2; subst h1; subst h2; simp [comm]
  | x :: xs, y :: ys, k + 1, c, h0, h1, h2 => by
    unfold comm at h0 ⊢
    split at h0
    · rw [if_pos ‹_›]; have := comm_step xs ys k c (by omega) (by simpa using h1) (by simpa using h2); omega
    · omega
theorem comm_differ : ∀ (r t : List UInt8) (k : Nat) (c d : UInt8), k ≤ comm r t → r[k]? = some c → t[k]? = some d → c ≠ d → comm r t = k
  | [], _, k, c, _, _, h, _, _ => by simp at h
  | _ :: _, [], k, c, _, _, _, h, _ => by simp at h
  | x :: xs, y :: ys, 0, c, d, _, h1, h2, hn => by
    simp at h1 h2; subst h1; subst h2; simp [comm, hn]
  | x :: xs, y :: ys, k + 1, c, d, h0, h1, h2, hn => by
    unfold comm at h0 ⊢
    split at h0
    · rw [if_pos ‹_›, comm_differ xs ys k c d (by omega) (by simpa using h1) (by simpa using h2) hn]
    · omega

def drawL (row : List UInt8) (col : Int) (tt : List UInt8) (toCol : Int) : List UInt8 × Int :=
  if wrongB row || wrongB tt then ([], 5)
  else if 200 < row.length ∨ 200 < tt.length then ([], 2)
  else if ¬ (0 ≤ col ∧ col ≤ 200 ∧ 0 ≤ toCol ∧ toCol ≤ 200) then ([], 3)
  else if row = tt then (movedL col toCol, 0)
  else (movedL col (comm row tt) ++ tt.drop (comm row tt) ++ (if tt.length < row.length then [27, 91, 75] else []) ++ movedL tt.length toCol, 0)

end Go.Proofs.YtokmiommhfbkeaaGreatDoor
