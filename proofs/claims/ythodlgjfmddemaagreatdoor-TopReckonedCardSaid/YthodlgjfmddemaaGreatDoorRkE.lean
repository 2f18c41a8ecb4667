/- Numbers by limbs: a copy with zeros behind it. -/
import Derived.Test.YthodlgjfmddemaaGreatDoorRkD
import Derived.Lib.AppendZeros
import Derived.Laws.CopyRow
namespace Go.Proofs.YthodlgjfmddemaaGreatDoor.Rk
open Go.RowKit

theorem zeroCells_one (z : Value) (m : Nat) : (Builtin.zeroCells #[z] m).toList = List.replicate m z := by
  apply List.ext_getElem
  · simp [Builtin.zeroCells]
  · intro i h1 h2
    simp [Builtin.zeroCells, Nat.mod_one]
section
variable {P : Program} (w : World)
theorem run_zeros_none (t tn ty e : TypeId) (i : TypeInfo) (k kn : IntKind) (ht : P.underlying t = some (.slice e)) (htn : P.underlying tn = some (.int kn)) (hi : P.info? e = some i)
    (g n cap : Nat) (hcap : n ≤ cap) : (Builtin.append_ #[t, tn] ty #[.slice (some ⟨g, 0, none⟩) n cap, .int k ((0 : Nat) : Int)]).run P w = .ok (.slice (some ⟨g, 0, none⟩) n cap) w := by
  have hw : IntKind.i64.wrap 0 = 0 := by rw [IntKind.wrap_i64]; omega
  simp [Builtin.append_, run_underlying ht, run_underlying htn, sizeOf, typeInfo, hi, asInt, asIntOf, hw, hcap, storeCells]
theorem run_zeros_room (t tn ty e : TypeId) (i : TypeInfo) (z : Value) (k kn : IntKind) (ht : P.underlying t = some (.slice e)) (htn : P.underlying tn = some (.int kn)) (hi : P.info? e = some i) (hz : i.zero = some z)
    (hsize : i.size = 1) (hzs : z.cells = #[z]) (hone : z.oneCell' = true)
    (g n cap : Nat) (cur : Array Value) (hg : w.heap[g]? = some (.cells cur e (0, 0))) (m : Nat) (h0 : 0 < m) (h63 : n + m ≤ 1000000000) (hbytes : i.bytes ≤ 1000) (hroom : n + m ≤ cap) (hfit : n + m ≤ cur.size) :
    (Builtin.append_ #[t, tn] ty #[.slice (some ⟨g, 0, none⟩) n cap, .int k (m : Int)]).run P w = .ok (.slice (some ⟨g, 0, none⟩) (n + m) cap) (w.setRow g (cur.toList.take n ++ List.replicate m z ++ cur.toList.drop (n + m)).toArray) := by
  have hw : IntKind.i64.wrap (m : Int) = m := by rw [IntKind.wrap_i64]; omega
  have hneg : ¬ ((m : Int) < 0) := by omega
  have hmb : m * i.bytes ≤ 1000000000 * 1000 := Nat.mul_le_mul (by omega) (by omega)
  have h48i : ¬ (281474976710656 < (m : Int) * (i.bytes : Int)) := by
    rw [← Int.natCast_mul]
    omega
  have hns : ¬ m = 0 := by omega
  have hst := run_storeCells_at P g n e (List.replicate m z) 0 cur w hg (by simpa using hfit) (by intro v hv; rw [List.eq_of_mem_replicate hv]; exact hone)
  simp only [Nat.add_zero, List.length_replicate] at hst
  simp [Builtin.append_, run_underlying ht, run_underlying htn, sizeOf, typeInfo, zeroValue, hi, hz, asInt, asIntOf, hw, hneg, hns, h48i, hsize, hzs, zeroCells_one, hroom, Addr.add_lit, hst]
theorem run_zeros_grow (t tn ty e : TypeId) (i : TypeInfo) (z : Value) (k kn : IntKind) (ht : P.underlying t = some (.slice e)) (htn : P.underlying tn = some (.int kn)) (hi : P.info? e = some i) (hz : i.zero = some z)
    (hsize : i.size = 1) (g n cap : Nat) (olds : List Value) (hlo : olds.length = n) (holds : ∀ j v, olds[j]? = some v → w.cell? ((⟨g, 0, none⟩ : Addr).add j) = some v)
    (m : Nat) (h0 : 0 < m) (h63 : n + m ≤ 1000000000) (hbytes : i.bytes ≤ 1000) (hroom : cap < n + m) :
    (Builtin.append_ #[t, tn] ty #[.slice (some ⟨g, 0, none⟩) n cap, .int k (m : Int)]).run P w = .ok (.slice (some ⟨w.heap.size, 0, none⟩) (n + m) (grownCap w (n + m) cap e))
        (w.drew.alloc (.cells (olds.toArray ++ Builtin.zeroCells z.cells m ++ Builtin.zeroCells z.cells (grownCap w (n + m) cap e - (n + m))) e)) := by
  have hw : IntKind.i64.wrap (m : Int) = m := by rw [IntKind.wrap_i64]; omega
  have hneg : ¬ ((m : Int) < 0) := by omega
  have hmb : m * i.bytes ≤ 1000000000 * 1000 := Nat.mul_le_mul (by omega) (by omega)
  have hnb : (n + m) * i.bytes ≤ 1000000000 * 1000 := Nat.mul_le_mul (by omega) (by omega)
  have h48i : ¬ (281474976710656 < (m : Int) * (i.bytes : Int)) := by
    rw [← Int.natCast_mul]
    omega
  have hns : ¬ m = 0 := by omega
  have hn : ¬ (n + m ≤ cap) := by omega
  have h63' : ¬ (9223372036854775807 < ((n : Int) + (m : Int))) := by omega
  have h48' : ¬ (281474976710656 < Builtin.nextslicecap (n + m) cap * i.bytes) := by
    have := growslice_fits (bytes := i.bytes) hroom (by omega)
    omega
  have hfo := run_firstCells_some (P := P) w.drew i.size n ⟨g, 0, none⟩ n cap olds (by rw [hlo, hsize, Nat.mul_one]) (by simpa using holds)
  rw [hsize] at hfo
  simp [Builtin.append_, run_underlying ht, run_underlying htn, sizeOf, typeInfo, zeroValue, hi, hz, asInt, asIntOf, hw, hneg, hns, h48i, hsize, hn, h63', h48', Question.forced, hfo, newRow, grownCap]
end
/-- zeros behind a row of the call's own -/
theorem run_append_zeros {P : Program} (w : World) (base : Nat) (t tn ty e : TypeId) (i : TypeInfo) (z : Value) (k kn : IntKind) (ht : P.underlying t = some (.slice e)) (htn : P.underlying tn = some (.int kn)) (hi : P.info? e = some i) (hz : i.zero = some z)
    (hsize : i.size = 1) (hzs : z.cells = #[z]) (hone : z.oneCell' = true)
    (g n cap : Nat) (xs : List Value) (hown : w.ownsRow base e 1 (.slice (some ⟨g, 0, none⟩) n cap) n xs) (m : Nat) (h63 : n + m ≤ 1000000000) (hbytes : i.bytes ≤ 1000) (hbase : base ≤ w.heap.size) :
    ∃ g' cap' w', (Builtin.append_ #[t, tn] ty #[.slice (some ⟨g, 0, none⟩) n cap, .int k (m : Int)]).run P w = .ok (.slice (some ⟨g', 0, none⟩) (n + m) cap') w' ∧ w'.ownsRow base e 1 (.slice (some ⟨g', 0, none⟩) (n + m) cap') (n + m) (xs ++ List.replicate m z) ∧ w.grownBy w' (some g) := by
  have hlen : xs.length = n := by have := hown.1; omega
  have hcells := hown.cells (g := g) rfl
  rcases hown.2 with ⟨hnil, _⟩ | ⟨g0, cap0, cur, e0, hbg, hg, hnc, hcm, hcs, htake⟩
  · cases hnil
  · injection e0 with e1 e2 e3
    injection e1 with e1
    injection e1 with e1
    subst e1 e3
    rw [Nat.mul_one] at hcs htake
    by_cases hm0 : m = 0
    · subst hm0
      exact ⟨g, cap, w, run_zeros_none w t tn ty e i k kn ht htn hi g n cap hnc, by simpa using hown, World.grownBy.refl w _⟩
    by_cases hroom : n + m ≤ cap
    · have hr := run_zeros_room (P := P) w t tn ty e i z k kn ht htn hi hz hsize hzs hone g n cap cur hg m (by omega) h63 hbytes hroom (by omega)
      refine ⟨g, cap, _, hr, ⟨by simp [hlen], .inr ⟨g, cap, _, rfl, hbg, setRow_heap w g cur _ e _ hg, hroom, hcm, ?_, ?_⟩⟩, ⟨rfl, rfl, rfl, by simp, fun k _ hk => setRow_other w g k _ (fun e => hk (by rw [e]))⟩⟩
      · simp only [List.size_toArray, List.length_append, List.length_take, List.length_drop, Array.length_toList, List.length_replicate]
        omega
      · rw [htake, Nat.mul_one]
        exact List.take_left' (by simp [hlen])
    · have hr := run_zeros_grow (P := P) w t tn ty e i z k kn ht htn hi hz hsize g n cap xs hlen hcells m (by omega) h63 hbytes (by omega)
      have hge := grownCap_ge w (n + m) cap e
      have hcm2 := grownCap_le_maxLen w (n + m) cap e (by simp only [maxLen]; omega)
      refine ⟨_, _, _, hr, ⟨by simp [hlen], .inr ⟨w.heap.size, _, _, rfl, hbase, heap_alloc_new w.drew _, hge, hcm2, ?_, ?_⟩⟩, ⟨rfl, rfl, rfl, by simp, fun k hk _ => Below.heap_alloc w.drew _ k hk⟩⟩
      · simp only [Array.size_append, List.size_toArray, size_zeroCells, hzs, hlen]
        simp
        omega
      · simp only [Array.toList_append, List.append_assoc, hzs, zeroCells_one]
        rw [← List.append_assoc, Nat.mul_one]
        exact List.take_left' (by simp [hlen])

/-- limbs as cells -/
def limbs (z n : Nat) : List Value := (List.range n).map fun j => .int .u32 (dg z j : Int)
theorem limbs_len (z n : Nat) : (limbs z n).length = n := by simp [limbs]
theorem limbs_one (z n : Nat) : ∀ u ∈ limbs z n, u.oneCell' = true := fun u hu => by
  simp only [limbs, List.mem_map] at hu
  obtain ⟨j, _, rfl⟩ := hu
  rfl
theorem limbs_at (z n j : Nat) (h : j < n) : (limbs z n)[j]? = some (.int .u32 (dg z j : Int)) := by
  simp [limbs, h]
theorem limbs_zeros {z n m : Nat} (h : nl z ≤ n) : limbs z n ++ List.replicate m (.int .u32 0) = limbs z (n + m) := by
  apply List.ext_getElem
  · simp [limbs]
  · intro i h1 h2
    rw [limbs_len] at h2
    by_cases hi : i < n
    · rw [List.getElem_append_left (by rw [limbs_len]; exact hi)]
      simp [limbs]
    · rw [List.getElem_append_right (by rw [limbs_len]; omega)]
      simp [limbs]
      rw [dg_high (by omega)]
      rfl
theorem UB.of_own {w : World} {base g n cap z : Nat} (h : w.ownsRow base 93 1 (.slice (some ⟨g, 0, none⟩) n cap) n (limbs z n)) : UB w g n (dg z) := by
  rcases h.2 with ⟨hnil, _⟩ | ⟨g0, cap0, cur, e0, hbg, hg, hnc, hcm, hcs, htake⟩
  · cases hnil
  · injection e0 with e1 e2 e3
    injection e1 with e1
    injection e1 with e1
    subst e1 e3
    refine ⟨cur, hg, by omega, fun j hj => ?_⟩
    have := limbs_at z n j hj
    rw [← htake, List.getElem?_take, if_pos (by omega)] at this
    simpa using this
set_option maxRecDepth 100000 in
set_option maxHeartbeats 1600000 in
theorem clone_any (v : Value) (z : Nat) (w : World) (hv : NL w v z) (hz : z ≠ 0) (hn : nl z ≤ 1000000) :
    Calls Tryz.prog 79 #[v] w fun e w' => ∃ g cap, e = .returned (.slice (some ⟨g, 0, none⟩) (nl z) cap) ∧ w'.ownsRow w.heap.size 93 1 (.slice (some ⟨g, 0, none⟩) (nl z) cap) (nl z) (limbs z (nl z)) ∧ Below w.heap.size w w' := by
  obtain ⟨A, c, rfl, hc, hA, h⟩ := hv
  have hpos : 0 < nl z := Nat.pos_of_ne_zero (fun h => hz (nl_eq_zero.1 h))
  obtain ⟨n, hnn⟩ : ∃ n, n = nl z := ⟨_, rfl⟩
  rw [← hnn] at h hpos hn hc ⊢
  obtain ⟨b, off, rfl, hb, hcell⟩ := h hpos
  have HC := Lib.hid (And.intro hb hcell)
  have HP := Lib.hid hpos
  clear hb hcell h hnn hc hA hz
  obtain ⟨i0, hi, hz0, hz1, hz2⟩ := info_parts infoU32
  have kn := fun (w : World) (a : Option Addr) (n c n' c' : Nat) => Lib.run_eql_slice_nil (P := Tryz.prog) w 46 93 a n c n' c' Tryz.underlying46
  go_enter Tryz.func79, Tryz.ntmps79
  go_wp2_with (at_builtin; refine wpList_append_lies _ rfl _ _ 46 rfl w.heap.size 93 i0 (.int .u32 0) 1 4 Tryz.underlying46 hi hz0 hz1 hz2 rfl (by decide) _ 0 _ rfl (World.ownsRow_lit _ _ 0 (by simp) (by decide) rfl) ⟨b, off, none⟩ n c (limbs z n) rfl (by rw [limbs_len, Nat.mul_one]) ?c1 (limbs_one z n) ?c2 (by unfold maxLen; omega) (by omega) (by simp) _ rfl ?_)
  case c1 =>
    intro j u hu
    have hj : j < n := by
      rcases Nat.lt_or_ge j n with h | h
      · exact h
      · rw [List.getElem?_eq_none (by rw [limbs_len]; exact h)] at hu; cases hu
    rw [limbs_at z n j hj] at hu
    injection hu with hu
    rw [WideShapes.add_plain, World.cell?_alloc_lt w _ ⟨b, off + j, none⟩ HC.out.1, HC.out.2 j hj, hu]
  case c2 => exact HP.out
  intro g cap w1 hown1 hg1 hat1 hlt1
  have hb1 : Below w.heap.size w w1 := ((Below.refl _ _).alloc (Nat.le_refl _) _).grown hg1 (by simp) (fun k hk => by simp [Value.ownBlock] at hk; omega)
  have HO := Lib.hid hown1
  clear hown1 hg1 hat1 hlt1
  go_wp2
  go_ret
  exact ⟨g, cap, by simp, by simpa using HO.out, hb1⟩
end Go.Proofs.YthodlgjfmddemaaGreatDoor.Rk
