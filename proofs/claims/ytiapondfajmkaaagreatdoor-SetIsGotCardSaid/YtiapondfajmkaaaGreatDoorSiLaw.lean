/- SetIsGot, plain: what is put is got; what else there was stays; how many there are. -/
import Derived.Test.YtiapondfajmkaaaGreatDoorSvV
namespace Go.Proofs.YtiapondfajmkaaaGreatDoor
open Go.RowKit

theorem getD_mem {L : List VarV} (hL : L.Pairwise fun x y => lessS x.nm y.nm = true) {x : VarV} (hx : x ∈ L) : getD L x.nm = x ∧ hasV L x.nm = true := by
  obtain ⟨h1, h2⟩ := getC_mem hL hx
  exact ⟨by unfold getD; rw [h2]; rfl, h1⟩
theorem getD_put {L : List VarV} (hr : Rises L) (v : VarV) : getD (setV L v) v.nm = v ∧ hasV (setV L v) v.nm = true := getD_mem (setV_pair hr.pair v) (setV_mem L v)
theorem getD_old {L : List VarV} (hr : Rises L) {v x : VarV} (hx : x ∈ L) (hn : x.nm ≠ v.nm) : getD (setV L v) x.nm = x ∧ hasV (setV L v) x.nm = true := getD_mem (setV_pair hr.pair v) (setV_old hx hn)
theorem setV_length (L : List VarV) (v : VarV) : (setV L v).length = if hasV L v.nm = true then L.length else L.length + 1 := by
  unfold setV
  cases h : hasV L v.nm
  · have := cntV_le L v.nm
    simp
    omega
  · obtain ⟨hl, _, _⟩ := getD_yes h
    simp
    omega
theorem hasV_name {S : ShV} (h : okS S) {n : ByteArray} (hn : ¬ nameOK n) : hasV S.vs n = false := by
  cases hh : hasV S.vs n with
  | false => rfl
  | true =>
    obtain ⟨hl, _, he⟩ := getD_yes hh
    have := h.names _ (List.getElem_mem hl)
    rw [he] at this
    exact absurd this hn
end Go.Proofs.YtiapondfajmkaaaGreatDoor
