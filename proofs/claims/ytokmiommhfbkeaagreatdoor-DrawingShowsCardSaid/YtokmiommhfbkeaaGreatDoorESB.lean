/- A slice of states of the editor in memory: cloned. -/
import Derived.Test.YtokmiommhfbkeaaGreatDoorES
import Derived.Laws.MakeOwn
namespace Go.Proofs.YtokmiommhfbkeaaGreatDoor
open Go.RowKit

theorem stateInfo : (Tryz.prog.info? 85).map (fun i => (i.zero, i.size, i.bytes)) = some (some (.agg #[.string ⟨#[]⟩, .int .i64 0]), 2, 24) := by kernel_rfl
theorem esC_one (l : List (ByteArray × Int)) : ∀ u ∈ esC l, u.oneCell' = true := fun u hu => by
  simp only [esC, List.mem_flatMap, List.mem_cons, List.not_mem_nil, or_false] at hu
  obtain ⟨b, _, rfl | rfl⟩ := hu <;> rfl
theorem esC_cells {w : World} {b off : Nat} {l : List (ByteArray × Int)} (h : ∀ j (h : j < l.length), w.cell? ⟨b, off + j * 2, none⟩ = some (.string l[j].1) ∧ w.cell? ⟨b, off + j * 2 + 1, none⟩ = some (.int .i64 l[j].2)) :
    ∀ j u, (esC l)[j]? = some u → w.cell? ((⟨b, off, none⟩ : Addr).add j) = some u := fun j u hu => by
  have hj : j < l.length * 2 := by rw [← esC_len]; exact (List.getElem?_eq_some_iff.1 hu).1
  have hq := h (j / 2) (by omega)
  have he := esC_at l (j / 2) (by omega)
  rw [WideShapes.add_plain]
  rcases Nat.mod_two_eq_zero_or_one j with h0 | h0
  · have : j / 2 * 2 = j := by omega
    rw [this] at hq he
    rw [hq.1, ← hu, he.1]
  · have : j / 2 * 2 + 1 = j := by omega
    rw [this] at he
    rw [show off + j / 2 * 2 + 1 = off + j by omega] at hq
    rw [hq.2, ← hu, he.2]

theorem own_slice {w : World} {B e s n : Nat} {v : Value} {xs : List Value} (h : w.ownsRow B e s v n xs) : ∃ p c, v = .slice p n c := by
  rcases h.2 with ⟨rfl, rfl⟩ | ⟨g, c, cur, rfl, _⟩
  · exact ⟨_, _, rfl⟩
  · exact ⟨_, _, rfl⟩
def OwnedS (w : World) (l : List (ByteArray × Int)) (e : Ending) (w' : World) : Prop :=
  ∃ v, e = .returned v ∧ w'.ownsRow w.heap.size 85 2 v l.length (esC l) ∧ Below w.heap.size w w'

set_option maxRecDepth 100000 in
set_option maxHeartbeats 800000 in
theorem cloneStates_any (l : List (ByteArray × Int)) (v : Value) (w : World) (hv : ES w v l) (hn : l.length ≤ 5864062014805) :
    Calls Tryz.prog 33 #[v] w (OwnedS w l) := by
  have kn := fun (w : World) (a : Option Addr) (n c n' c' : Nat) => Lib.run_eql_slice_nil (P := Tryz.prog) w 35 85 a n c n' c' Tryz.underlying35
  obtain ⟨A, c, rfl, hc, h⟩ := hv
  cases A with
  | none =>
    have h0 : l = [] := by
      rcases Nat.eq_zero_or_pos l.length with h0 | h0
      · exact List.length_eq_zero_iff.1 h0
      · obtain ⟨_, _, e, _⟩ := h h0; cases e
    subst h0
    clear h
    go_enter Tryz.func33, Tryz.ntmps33
    go_wp2
    go_ret
    exact ⟨_, rfl, World.ownsRow_nil _ _ _ _, Below.refl _ _⟩
  | some ad =>
    obtain ⟨i0, hi, hz0, hz1, hz2⟩ := info_parts stateInfo
    have hcells : ∀ j u, (esC l)[j]? = some u → w.cell? (ad.add j) = some u := fun j u hu => by
      have hj : j < l.length * 2 := by rw [← esC_len]; exact (List.getElem?_eq_some_iff.1 hu).1
      obtain ⟨b, off, e, _, hcell⟩ := h (by omega)
      injection e with e; subst e
      exact esC_cells hcell j u hu
    have hlt : ∀ j u, (esC l)[j]? = some u → (w.alloc (.cells #[] 85)).cell? (ad.add j) = some u := fun j u hu => by
      have h1 := hcells j u hu
      rw [World.cell?_alloc_lt _ _ _ (World.block_lt_of_cell? w _ h1)]
      exact h1
    have HLT := Lib.hid hlt
    have hm := Lib.hid (World.ownsRow_made (base := w.heap.size) (e := 85) (size := 2) w #[] 0 (Nat.le_refl _) (by unfold maxLen; omega) rfl)
    clear h hcells hlt
    go_enter Tryz.func33, Tryz.ntmps33
    go_wp2_with (at_builtin; refine wpList_append_own _ rfl _ _ 35 rfl w.heap.size 85 i0 (.agg #[.string ⟨#[]⟩, .int .i64 0]) 2 24 Tryz.underlying35 hi hz0 hz1 hz2 rfl (by decide) _ 0 [] rfl hm.out ad l.length c (esC l) rfl (esC_len l) HLT.out (esC_one l) ?c3 ?c4 ?c5 ?_)
    case c3 => unfold maxLen; omega
    case c4 => omega
    case c5 => simp
    intro v5 w5 hown5 hg5 _
    go_wp2
    go_ret
    exact ⟨_, rfl, hown5, ((Below.refl _ w).alloc (Nat.le_refl _) _).grown hg5 (by simp) (fun g hg => by simp [Value.ownBlock] at hg; omega)⟩

end Go.Proofs.YtokmiommhfbkeaaGreatDoor
