/- Shell variables: which of a list is the first of a kind; are there any; do they rise. -/
import Derived.Test.YtiapondfajmkaaaGreatDoorSvB
namespace Go.Proofs.YtiapondfajmkaaaGreatDoor
open Go.RowKit

def idxV (p : VarV → Bool) (l : List VarV) : Int := if l.any p then (l.findIdx p : Int) else -1
theorem idxV_hit {p : VarV → Bool} {l : List VarV} {k : Nat} (hk : k < l.length) (h : ∀ j (hj : j < l.length), j < k → p l[j] = false) (hp : p l[k] = true) : idxV p l = k := by
  have ha : l.any p = true := List.any_eq_true.2 ⟨l[k], List.getElem_mem hk, hp⟩
  unfold idxV
  rw [if_pos ha, (List.findIdx_eq hk).2 ⟨hp, fun j hj => h j (by omega) hj⟩]
theorem idxV_none {p : VarV → Bool} {l : List VarV} (h : ∀ j (hj : j < l.length), j < l.length → p l[j] = false) : idxV p l = -1 := by
  have ha : l.any p = false := List.any_eq_false.2 fun x hx => by
    obtain ⟨j, hj, rfl⟩ := List.getElem_of_mem hx
    simp [h j hj hj]
  unfold idxV
  rw [ha]; rfl
theorem idxV_any (p : VarV → Bool) (l : List VarV) : decide (0 ≤ idxV p l) = l.any p := by
  unfold idxV
  cases l.any p <;> simp
/-- what a closure tells of a variable -/
def TellsV (w : World) (g : Nat) (cap : Array Value) (p : VarV → Bool) (L : List VarV) : Prop :=
  ∀ v ∈ L, ∀ s W, Below w.heap.size w W → SL W (sv s) v.ls → Calls Tryz.prog g (#[aggV (v, s)] ++ cap) W fun e W' => e = .returned (.bool (p v)) ∧ Below W.heap.size W W'
set_option maxRecDepth 100000 in
set_option maxHeartbeats 3200000 in
theorem indexFuncV_any (g : Nat) (cap : Array Value) (eg : ∀ args w, (callFunc g args).run Tryz.prog w = .ok (.enter g args) w) (p : VarV → Bool) (L : List VarV) (A : Option Addr) (n c : Nat) (w : World) (hv : VL w (.slice A n c) L) (hn : L.length ≤ 2000)
    (hp : TellsV w g cap p L) :
    Calls Tryz.prog 62 #[.slice A n c, .func (.func g) #[] cap] w fun e w' => e = .returned (.int .i64 (idxV p L)) ∧ Below w.heap.size w w' := by
  have HP := Lib.hid hp
  clear hp
  have HV := Lib.hid hv
  obtain ⟨rfl, _, _, h⟩ := VL.at hv
  have HH := Lib.hid h
  clear h hv
  go_enter Tryz.func62, Tryz.ntmps62
  go_wp2_with fail
  go_loopw [8] (fun i wr => ∃ k : Nat, k ≤ L.length ∧ i = .int .i64 k ∧ Below w.heap.size w wr ∧ Hid (∀ j (hj : j < L.length), j < k → p L[j] = false)) (fun i _ => L.length - (intOf i).toNat)
  case atStart => exact ⟨0, Nat.zero_le _, rfl, Below.refl _ _, fun j _ hj => by omega⟩
  case round =>
    obtain ⟨k, hk, rfl, hbw, HN⟩ := hrel
    by_cases hlt : k < L.length
    · obtain ⟨b, off, s, hA, hb, hsl, c0, c1, c2, c3, c4, c5⟩ := VL.at (HV.out.keep hbw) |>.2.2.2 k hlt
      have hcall := Lib.hid (HP.out L[k] (List.getElem_mem hlt) s wr hbw hsl)
      subst hA
      clear hsl
      generalize hx : L[k] = x at *
      obtain ⟨sA, sn, sc⟩ := s
      unfold sv at c3
      have hltz : (k : Int) < (L.length : Int) := by omega
      have hk1 : IntKind.i64.wrap ((k : Int) + 1) = ((k + 1 : Nat) : Int) := IntWalk.i64_in _ (by omega)
      cases hps : p x
      · have HN2 : Hid (∀ j (hj : j < L.length), j < k + 1 → p L[j] = false) := fun j hj hjk => by
          by_cases e : j = k
          · subst e; rw [hx]; exact hps
          · exact HN.out j hj (by omega)
        rw [hps] at hcall
        clear hx hps HN
        go_wp2_with fail
        refine hcall.out.mono ?_
        rintro e w1 ⟨rfl, hb1⟩
        clear hcall
        go_wp2
        go_roundw
        case rel => exact ⟨k + 1, by omega, by simp, hbw.trans (hb1.mono hbw.size), HN2⟩
        case measure => simp [intOf]; omega
      · have hfin := Lib.hid (idxV_hit hlt HN.out (by rw [hx]; exact hps))
        rw [hps] at hcall
        clear hx hps HN
        go_wp2_with fail
        refine hcall.out.mono ?_
        rintro e w1 ⟨rfl, hb1⟩
        clear hcall
        go_wp2
        go_ret
        exact ⟨ret_int hfin.out.symm, hbw.trans (hb1.mono hbw.size)⟩
    · have hfin := Lib.hid (idxV_none (p := p) (l := L) (fun j hj _ => HN.out j hj (by omega)))
      go_wp2
      go_ret
      exact ⟨ret_int hfin.out.symm, hbw⟩
set_option maxHeartbeats 800000 in
theorem containsFuncV_any (g : Nat) (eg : ∀ args w, (callFunc g args).run Tryz.prog w = .ok (.enter g args) w) (p : VarV → Bool) (L : List VarV) (A : Option Addr) (n c : Nat) (w : World) (hv : VL w (.slice A n c) L) (hn : L.length ≤ 2000)
    (hp : TellsV w g #[] p L) :
    Calls Tryz.prog 30 #[.slice A n c, .func (.func g) #[] #[]] w fun e w' => e = .returned (.bool (L.any p)) ∧ Below w.heap.size w w' := by
  have hc := Lib.hid (indexFuncV_any g #[] eg p L A n c w hv hn hp)
  have H := Lib.hid (idxV_any p L)
  clear hp hv
  generalize idxV p L = m at *
  go_enter Tryz.func30, Tryz.ntmps30
  go_wp2_with fail
  refine hc.out.mono ?_
  rintro e w1 ⟨rfl, hb1⟩
  clear hc
  go_wp2
  go_ret
  exact ⟨ret_bool H.out, hb1⟩
theorem ShM.vsV {w : World} {S : ShV} {A : Option Addr} {n c : Nat} {ar : SV} (h : ShM w S ⟨ar, (A, n, c)⟩) : VL w (.slice A n c) S.vs := h.vs
end Go.Proofs.YtiapondfajmkaaaGreatDoor
