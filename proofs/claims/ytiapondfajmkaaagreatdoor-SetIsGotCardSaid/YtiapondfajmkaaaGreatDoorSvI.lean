/- Shell states: is there a byte 0 in a text of a list? Are they right? -/
import Derived.Test.YtiapondfajmkaaaGreatDoorSvH
import Derived.Deep.CutBlock
namespace Go.Proofs.YtiapondfajmkaaaGreatDoor
open Go.RowKit

def idxP (p : ByteArray → Bool) (l : List ByteArray) : Int := if l.any p then (l.findIdx p : Int) else -1
theorem idxP_hit {p : ByteArray → Bool} {l : List ByteArray} {k : Nat} (hk : k < l.length) (h : ∀ j (hj : j < l.length), j < k → p l[j] = false) (hp : p l[k] = true) : idxP p l = k := by
  have ha : l.any p = true := List.any_eq_true.2 ⟨l[k], List.getElem_mem hk, hp⟩
  unfold idxP
  rw [if_pos ha, (List.findIdx_eq hk).2 ⟨hp, fun j hj => h j (by omega) hj⟩]
theorem idxP_none {p : ByteArray → Bool} {l : List ByteArray} (h : ∀ j (hj : j < l.length), j < l.length → p l[j] = false) : idxP p l = -1 := by
  have ha : l.any p = false := List.any_eq_false.2 fun x hx => by
    obtain ⟨j, hj, rfl⟩ := List.getElem_of_mem hx
    simp [h j hj hj]
  unfold idxP
  rw [ha]; rfl
theorem idxP_any (p : ByteArray → Bool) (l : List ByteArray) : decide (0 ≤ idxP p l) = l.any p := by
  unfold idxP
  cases l.any p <;> simp

set_option maxHeartbeats 800000 in
theorem indexFunc_any (g : Nat) (eg : ∀ args w, (callFunc g args).run Tryz.prog w = .ok (.enter g args) w) (p : ByteArray → Bool) (l : List ByteArray) (v : Value) (w : World) (hv : SL w v l) (hn : l.length ≤ 9223372036854775807)
    (hp : ∀ s ∈ l, ∀ W, Below w.heap.size w W → Calls Tryz.prog g #[.string s] W fun e W' => e = .returned (.bool (p s)) ∧ Below W.heap.size W W') :
    Calls Tryz.prog 60 #[v, .func (.func g) #[] #[]] w fun e w' => e = .returned (.int .i64 (idxP p l)) ∧ Below w.heap.size w w' := by
  have HP := Lib.hid hp
  clear hp
  have HV := Lib.hid hv
  obtain ⟨A, c, rfl, hc, _, h⟩ := hv
  have HH := Lib.hid h
  clear h
  go_enter Tryz.func60, Tryz.ntmps60
  go_wp2_with fail
  go_loopw [8] (fun i wr => ∃ k : Nat, k ≤ l.length ∧ i = .int .i64 k ∧ Below w.heap.size w wr ∧ Hid (∀ j (hj : j < l.length), j < k → p l[j] = false)) (fun i _ => l.length - (intOf i).toNat)
  case atStart => exact ⟨0, Nat.zero_le _, rfl, Below.refl _ _, fun j _ hj => by omega⟩
  case round =>
    obtain ⟨k, hk, rfl, hbw, HN⟩ := hrel
    by_cases hlt : k < l.length
    · obtain ⟨b, off, rfl, hb, hcell⟩ := HH.out (by omega)
      have hc1 : wr.cell? ⟨b, off + k, none⟩ = some (.string l[k]) := (hbw.cell (p := ⟨b, off + k, none⟩) hb).trans (hcell k hlt)
      have hcall := Lib.hid (HP.out l[k] (List.getElem_mem hlt) wr hbw)
      clear hcell
      generalize hs : l[k] = s at *
      cases hps : p s
      · have HN2 : Hid (∀ j (hj : j < l.length), j < k + 1 → p l[j] = false) := fun j hj hjk => by
          by_cases e : j = k
          · subst e; rw [hs]; exact hps
          · exact HN.out j hj (by omega)
        rw [hps] at hcall
        clear hs hps
        go_wp2_with fail
        refine hcall.out.mono ?_
        rintro e w1 ⟨rfl, hb1⟩
        clear hcall
        go_wp2
        go_roundw
        case rel => exact ⟨k + 1, by omega, by go_num, hbw.trans (hb1.mono hbw.size), HN2⟩
        case measure => simp [intOf]; omega
      · have hfin := Lib.hid (idxP_hit hlt HN.out (by rw [hs]; exact hps))
        rw [hps] at hcall
        clear hs hps
        go_wp2_with fail
        refine hcall.out.mono ?_
        rintro e w1 ⟨rfl, hb1⟩
        clear hcall
        go_wp2
        go_ret
        exact ⟨ret_int hfin.out.symm, hbw.trans (hb1.mono hbw.size)⟩
    · have hfin := Lib.hid (idxP_none (p := p) (l := l) (fun j hj _ => HN.out j hj (by omega)))
      go_wp2
      go_ret
      exact ⟨ret_int hfin.out.symm, hbw⟩

set_option maxHeartbeats 400000 in
theorem containsFunc_any (g : Nat) (eg : ∀ args w, (callFunc g args).run Tryz.prog w = .ok (.enter g args) w) (p : ByteArray → Bool) (l : List ByteArray) (v : Value) (w : World) (hv : SL w v l) (hn : l.length ≤ 9223372036854775807)
    (hp : ∀ s ∈ l, ∀ W, Below w.heap.size w W → Calls Tryz.prog g #[.string s] W fun e W' => e = .returned (.bool (p s)) ∧ Below W.heap.size W W') :
    Calls Tryz.prog 25 #[v, .func (.func g) #[] #[]] w fun e w' => e = .returned (.bool (l.any p)) ∧ Below w.heap.size w w' := by
  have hc := Lib.hid (indexFunc_any g eg p l v w hv hn hp)
  have H := Lib.hid (idxP_any p l)
  clear hp hv
  generalize idxP p l = n at *
  go_enter Tryz.func25, Tryz.ntmps25
  go_wp2_with fail
  refine hc.out.mono ?_
  rintro e w1 ⟨rfl, hb1⟩
  clear hc
  go_wp2
  go_ret
  exact ⟨ret_bool H.out, hb1⟩


def hasZ (s : ByteArray) : Bool := decide (0 ≤ Lib.indexByte s.data.toList 0)
theorem hasZ_any {l : List ByteArray} : l.any hasZ = false ↔ ∀ s ∈ l, noZ s := by
  rw [List.any_eq_false]
  refine ⟨fun h s hs => ?_, fun h s hs => ?_⟩
  · have := h s hs
    unfold hasZ at this
    simpa [noZ] using this
  · have := h s hs
    unfold hasZ
    simpa [noZ] using this
theorem hasZ_tells (s : ByteArray) (W : World) : Calls Tryz.prog 27 #[.string s] W fun e W' => e = .returned (.bool (hasZ s)) ∧ Below W.heap.size W W' := by
  have HI := Lib.hid (fun W => Tryz.strings_IndexByte s 0 W)
  have HZ := Lib.hid (show hasZ s = decide (0 ≤ Lib.indexByte s.data.toList (0 : Int).toNat.toUInt8) from rfl)
  go_enter Tryz.func27, Tryz.ntmps27
  go_wp2_with (go_at_call 9; refine (HI.out _).mono ?_; rintro e w2 ⟨rfl, rfl⟩)
  go_ret
  exact ⟨ret_bool HZ.out.symm, Below.refl _ _⟩
end Go.Proofs.YtiapondfajmkaaaGreatDoor
