/- RowsMatch: slices.ContainsFunc with a closure that has captured one value; every row is narrow. -/
import Derived.Test.YtokmiommhfbkeaaDoorRowsRefB
namespace Go.Proofs.YtokmiommhfbkeaaDoor
open Go.RowKit

set_option maxHeartbeats 800000 in
theorem indexFuncC_any (g : Nat) (cap : Value) (eg : ∀ args w, (callFunc g args).run Tryd.prog w = .ok (.enter g args) w) (p : ByteArray → Bool) (l : List ByteArray) (v : Value) (w : World) (hv : SL w v l) (hn : l.length ≤ 9223372036854775807)
    (hp : ∀ s ∈ l, ∀ W, Below w.heap.size w W → Calls Tryd.prog g #[.string s, cap] W fun e W' => e = .returned (.bool (p s)) ∧ Below W.heap.size W W') :
    Calls Tryd.prog 47 #[v, .func (.func g) #[] #[cap]] w fun e w' => e = .returned (.int .i64 (idxP p l)) ∧ Below w.heap.size w w' := by
  have HP := Lib.hid hp
  clear hp
  have HV := Lib.hid hv
  obtain ⟨A, c, rfl, hc, h⟩ := hv
  have HH := Lib.hid h
  clear h
  go_enter Tryd.func47, Tryd.ntmps47
  go_wp2_with fail
  go_loopw [8] (fun i wr => ∃ k : Nat, k ≤ l.length ∧ i = .int .i64 k ∧ Below w.heap.size w wr ∧ Hid (∀ j (hj : j < l.length), j < k → p l[j] = false)) (fun i _ => l.length - (intOf i).toNat)
  case atStart => exact ⟨0, Nat.zero_le _, rfl, Below.refl _ _, fun j _ hj => by omega⟩
  case round =>
    obtain ⟨k, hk, rfl, hbw, HN⟩ := hrel
    by_cases hlt : k < l.length
    · obtain ⟨b, off, rfl, hb, hcell⟩ := HH.out (by omega)
      have hc1 : wr.cell? ⟨b, off + k, none⟩ = some (.string l[k]) := (hbw.cell (p := ⟨b, off + k, none⟩) hb).trans (hcell k hlt)
      have hcall := Lib.hid (HP.out l[k] (List.getElem_mem hlt) wr hbw)
      clear hcell
      generalize hs : l[k] = s at *
      cases hps : p s
      · have HN2 : Hid (∀ j (hj : j < l.length), j < k + 1 → p l[j] = false) := fun j hj hjk => by
          by_cases e : j = k
          · subst e; rw [hs]; exact hps
          · exact HN.out j hj (by omega)
        rw [hps] at hcall
        clear hs hps
        go_wp2_with fail
        refine hcall.out.mono ?_
        rintro e w1 ⟨rfl, hb1⟩
        clear hcall
        go_wp2
        go_roundw
        case rel => exact ⟨k + 1, by omega, by go_num, hbw.trans (hb1.mono hbw.size), HN2⟩
        case measure => simp [intOf]; omega
      · have hfin := Lib.hid (idxP_hit hlt HN.out (by rw [hs]; exact hps))
        rw [hps] at hcall
        clear hs hps
        go_wp2_with fail
        refine hcall.out.mono ?_
        rintro e w1 ⟨rfl, hb1⟩
        clear hcall
        go_wp2
        go_ret
        exact ⟨ret_int hfin.out.symm, hbw.trans (hb1.mono hbw.size)⟩
    · have hfin := Lib.hid (idxP_none (p := p) (l := l) (fun j hj _ => HN.out j hj (by omega)))
      go_wp2
      go_ret
      exact ⟨ret_int hfin.out.symm, hbw⟩

set_option maxHeartbeats 400000 in
theorem containsFuncC_any (g : Nat) (cap : Value) (eg : ∀ args w, (callFunc g args).run Tryd.prog w = .ok (.enter g args) w) (p : ByteArray → Bool) (l : List ByteArray) (v : Value) (w : World) (hv : SL w v l) (hn : l.length ≤ 9223372036854775807)
    (hp : ∀ s ∈ l, ∀ W, Below w.heap.size w W → Calls Tryd.prog g #[.string s, cap] W fun e W' => e = .returned (.bool (p s)) ∧ Below W.heap.size W W') :
    Calls Tryd.prog 19 #[v, .func (.func g) #[] #[cap]] w fun e w' => e = .returned (.bool (l.any p)) ∧ Below w.heap.size w w' := by
  have hc := Lib.hid (indexFuncC_any g cap eg p l v w hv hn hp)
  have H := Lib.hid (idxP_any p l)
  clear hp hv
  generalize idxP p l = n at *
  go_enter Tryd.func19, Tryd.ntmps19
  go_wp2_with fail
  refine hc.out.mono ?_
  rintro e w1 ⟨rfl, hb1⟩
  clear hc
  go_wp2
  go_ret
  exact ⟨ret_bool H.out, hb1⟩


/-- every row is at most this wide -/
def Narrow (wide : Int) (x : St) : Prop := (∀ p ∈ x.1, (p.size : Int) ≤ wide) ∧ (x.2.2.length : Int) ≤ wide
theorem Narrow.put {wide n : Int} {x : St} {s : List UInt8} (h : Narrow wide x) (hs : (s.length : Int) ≤ wide) : Narrow wide (putR wide n s x) := by
  unfold putR
  split
  · refine ⟨fun p hp => ?_, hs⟩
    rcases List.mem_append.1 hp with hp | hp
    · exact h.1 p hp
    · obtain rfl : p = ⟨x.2.2.toArray⟩ := by simpa using hp
      exact h.2
  · exact ⟨h.1, by simp; omega⟩
theorem Narrow.tab {wide n : Int} {x : St} (h : Narrow wide x) (hw : 2 ≤ wide) : ∀ k, Narrow wide (tabR wide n k x)
  | 0 => h
  | k + 1 => (Narrow.tab h hw k).put (by simp; omega)
theorem Narrow.line {wide n : Int} (hw : 2 ≤ wide) : ∀ (l : List UInt8) (y : St × Nat), Narrow wide y.1 → Narrow wide (l.foldl (byteR wide n) y).1
  | [], _, h => h
  | c :: l, y, h => Narrow.line hw l _ (by
    unfold byteR
    have := shown_len c
    split
    · exact h.tab hw _
    · exact h.put (by omega))
theorem Narrow.close {wide n : Int} {x : St} (hw : 2 ≤ wide) (h : Narrow wide x) : Narrow wide (closeR n x) := by
  refine ⟨fun p hp => ?_, by show (0 : Int) ≤ wide; omega⟩
  rcases List.mem_append.1 hp with hp | hp
  · exact h.1 p hp
  · obtain rfl : p = ⟨x.2.2.toArray⟩ := by simpa using hp
    exact h.2
theorem narrow_rowsK {wide : Int} (hw : 2 ≤ wide) (ls : List ByteArray) : ∀ k, Narrow wide (rowsK wide ls k)
  | 0 => ⟨fun p hp => absurd (show p ∈ ([] : List ByteArray) from hp) List.not_mem_nil, by show (0 : Int) ≤ wide; omega⟩
  | k + 1 => (Narrow.line hw _ (_, 0) (narrow_rowsK hw ls k)).close hw
theorem narrow (s : ByteArray) (wide : Int) : (rowsL s wide).1.any (fun p => decide (wide < (p.size : Int))) = false := by
  rw [List.any_eq_false]
  intro p hp
  unfold rowsL at hp
  split at hp
  · rename_i hE
    have hw : 2 ≤ wide := by
      unfold rowsE at hE
      split at hE
      · cases hE
      · split at hE
        · rename_i h; simp [withinB] at h; exact h.1
        · cases hE
    have := (narrow_rowsK hw (linesL s) _).1 p hp
    simp; omega
  · cases hp

/-- the law's closure: is a row too wide -/
theorem wider_any (p : ByteArray) (b : Nat) (wide : Int) (w : World) (hc : w.cell? ⟨b, 0, none⟩ = some (.int .i64 wide)) :
    Calls Tryd.prog 20 #[.string p, .pointer (some ⟨b, 0, none⟩)] w fun e w' => e = .returned (.bool (decide (wide < (p.size : Int)))) ∧ Below w.heap.size w w' := by
  go_enter Tryd.func20, Tryd.ntmps20
  go_wp2
  go_ret
  exact ⟨rfl, Below.refl _ _⟩

end Go.Proofs.YtokmiommhfbkeaaDoor
