/- SetIsGot: within, pick, and the texts that a state is made of. -/
import Derived.Test.YtiapondfajmkaaaGreatDoorSvA
namespace Go.Proofs.YtiapondfajmkaaaGreatDoor
open Go.RowKit

/-- a number in a range that begins with 0 -/
def inR (n m : Int) : Int := ((n.tmod m) + m).tmod m
theorem inR_range {n m : Int} (hm : 0 < m) : 0 ≤ inR n m ∧ inR n m < m := by
  unfold inR
  have h1 : -m < n.tmod m := Int.lt_tmod_of_pos n hm
  have h2 : 0 ≤ n.tmod m + m := by omega
  exact ⟨Int.tmod_nonneg _ h2, Int.tmod_lt_of_pos _ hm⟩
set_option maxRecDepth 100000 in
set_option maxHeartbeats 1600000 in
theorem within_any (n m : Int) (hm0 : 0 ≤ m) (hm : m ≤ 4611686018427387903) (w : World) :
    Calls Tryz.prog 16 #[.int .i64 n, .int .i64 0, .int .i64 m] w fun e w' => e = .returned (.int .i64 (inR n (m + 1))) ∧ w = w' := by
  have hr := inR_range (n := n) (m := m + 1) (by omega)
  have h1 : -(m + 1) < n.tmod (m + 1) := Int.lt_tmod_of_pos n (by omega)
  have h2 : n.tmod (m + 1) < m + 1 := Int.tmod_lt_of_pos n (by omega)
  have e1 : IntKind.i64.wrap (m - 0) = m := by rw [Int.sub_zero]; exact IntWalk.i64_in _ (by omega)
  have e2 : IntKind.i64.wrap (m + 1) = m + 1 := IntWalk.i64_in _ (by omega)
  have e3 : IntKind.i64.wrap (n.tmod (m + 1)) = n.tmod (m + 1) := IntWalk.i64_in _ (by omega)
  have e4 : IntKind.i64.wrap (n.tmod (m + 1) + (m + 1)) = n.tmod (m + 1) + (m + 1) := IntWalk.i64_in _ (by omega)
  have hz : ¬ m + 1 = 0 := by omega
  have hzb : (m + 1 == 0) = false := beq_eq_false_iff_ne.2 hz
  have e5 : IntKind.i64.wrap ((n.tmod (m + 1) + (m + 1)).tmod (m + 1)) = (n.tmod (m + 1) + (m + 1)).tmod (m + 1) := IntWalk.i64_in _ (by have := hr; unfold inR at this; omega)
  have e6 : IntKind.i64.wrap (0 + (n.tmod (m + 1) + (m + 1)).tmod (m + 1)) = (n.tmod (m + 1) + (m + 1)).tmod (m + 1) := by rw [Int.zero_add]; exact e5
  unfold inR
  clear hr h1 h2
  generalize hq : n.tmod (m + 1) = q at *
  go_enter Tryz.func16, Tryz.ntmps16
  go_wp2_with fail
  go_ret
  exact ⟨rfl, rfl⟩
/-- texts that came in -/
def AL (w : World) (v : Value) (l : List ByteArray) : Prop :=
  ∃ A c, v = .slice A l.length c ∧ l.length ≤ c ∧ (0 < l.length → ∃ b off, A = some ⟨b, off, none⟩ ∧ b < w.heap.size ∧ ∀ j (h : j < l.length), w.cell? ⟨b, off + j, none⟩ = some (.string l[j]))
theorem AL.keep {w w' : World} {v : Value} {l : List ByteArray} (h : AL w v l) (hb : Below w.heap.size w w') : AL w' v l := by
  obtain ⟨A, c, rfl, hc, h⟩ := h
  refine ⟨A, c, rfl, hc, fun hn => ?_⟩
  obtain ⟨b, off, rfl, hlt, hcell⟩ := h hn
  exact ⟨b, off, rfl, Nat.lt_of_lt_of_le hlt hb.size, fun j hj => (hb.cell (p := ⟨b, off + j, none⟩) hlt).trans (hcell j hj)⟩
theorem AL.len {w : World} {A : Option Addr} {n c : Nat} {l : List ByteArray} (h : AL w (.slice A n c) l) : n = l.length := by
  obtain ⟨_, _, e, _⟩ := h; injection e
/-- an element of a list -/
def pickS (l : List ByteArray) (i : Int) : ByteArray := l[(inR i l.length).toNat]?.getD ⟨#[]⟩
set_option maxRecDepth 100000 in
set_option maxHeartbeats 1600000 in
theorem pick_any (l : List ByteArray) (A : Option Addr) (n c : Nat) (i : Int) (w : World) (h : AL w (.slice A n c) l) (hn : l.length ≤ 4611686018427387903) :
    Calls Tryz.prog 15 #[.slice A n c, .int .i64 i] w fun e w' => e = .returned (.string (pickS l i)) ∧ w = w' := by
  obtain rfl := h.len
  rcases Nat.eq_zero_or_pos l.length with h0 | h0
  · have hp : pickS l i = ⟨#[]⟩ := by
      unfold pickS
      rw [List.length_eq_zero_iff.1 h0]
      rfl
    rw [hp, h0]
    clear h
    go_enter Tryz.func15, Tryz.ntmps15
    go_wp2_with fail
    go_ret
    exact ⟨rfl, rfl⟩
  · obtain ⟨A', c', e, _, hx⟩ := h
    injection e with e1 e2 e3
    subst e1 e3
    obtain ⟨b, off, rfl, hb, hc⟩ := hx h0
    obtain ⟨r1, r2⟩ := inR_range (n := i) (m := (l.length : Int)) (by omega)
    obtain ⟨k, hk⟩ := Int.eq_ofNat_of_zero_le r1
    have hkl : k < l.length := by omega
    have hp : pickS l i = l[k] := by
      unfold pickS
      rw [hk]
      simp [hkl]
    rw [hp]
    have hck := hc k hkl
    have HW := Lib.hid (within_any i ((l.length : Int) - 1) (by omega) (by omega) w)
    rw [show (l.length : Int) - 1 + 1 = l.length by omega, hk] at HW
    have e1 : IntKind.i64.wrap ((l.length : Int) - 1) = (l.length : Int) - 1 := IntWalk.i64_in _ (by omega)
    have hz : ((l.length : Int) == 0) = false := beq_eq_false_iff_ne.2 (by omega)
    have k0 : 0 ≤ (k : Int) := by omega
    have k1 : (k : Int) < (l.length : Int) := by omega
    generalize l[k] = t at *
    clear hc hx hk r1 r2 hp
    go_enter Tryz.func15, Tryz.ntmps15
    go_wp2_with (go_at_call 16; refine HW.out.mono ?_; rintro e w1 ⟨rfl, rfl⟩)
    go_ret
    exact ⟨rfl, rfl⟩
/-- the text with a number, cut -/
def atS (l : List ByteArray) (i : Int) : ByteArray := (pickS l i).extract 0 (min (pickS l i).size 300)
set_option maxRecDepth 100000 in
set_option maxHeartbeats 1600000 in
theorem at_any (l : List ByteArray) (A : Option Addr) (n c bx : Nat) (i : Int) (w : World) (h : AL w (.slice A n c) l) (hn : l.length ≤ 4611686018427387903) (hc : w.cell? ⟨bx, 0, none⟩ = some (.slice A n c)) :
    Calls Tryz.prog 14 #[.int .i64 i, .pointer (some ⟨bx, 0, none⟩)] w fun e w' => e = .returned (.string (atS l i)) ∧ w = w' := by
  have HP := Lib.hid (pick_any l A n c i w h hn)
  unfold atS
  generalize pickS l i = t at *
  clear h hn
  rcases Nat.lt_or_ge t.size 300 with ht | ht
  · rw [Nat.min_eq_left (by omega), show t.extract 0 t.size = t by simp]
    have hm : min (t.size : Int) 300 = (t.size : Int) := by omega
    have hz1 : (t.size : Int) ≤ 300 := by omega
    have hz2 : ¬ (300 : Int) < (t.size : Int) := by omega
    go_enter Tryz.func14, Tryz.ntmps14
    go_wp2_with (go_at_call 15; refine HP.out.mono ?_; rintro e w1 ⟨rfl, rfl⟩)
    all_goals first | (exfalso; omega) | (go_ret; exact ⟨rfl, rfl⟩)
  · rw [Nat.min_eq_right (by omega)]
    have hz1 : (300 : Int) ≤ (t.size : Int) := by omega
    have hz2 : 300 ≤ t.size := by omega
    have hm : min (t.size : Int) 300 = 300 := by omega
    go_enter Tryz.func14, Tryz.ntmps14
    go_wp2_with (go_at_call 15; refine HP.out.mono ?_; rintro e w1 ⟨rfl, rfl⟩)
    all_goals first | (exfalso; omega) | (go_ret; exact ⟨rfl, rfl⟩)
end Go.Proofs.YtiapondfajmkaaaGreatDoor
