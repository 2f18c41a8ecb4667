/- Arithmetic expressions: the program's printer: its strings.Builder, which lies at its head. -/
import Derived.Test.YtiigclkebnmopaaGreatDoorArRPa
import Derived.Lib.Builder
import Derived.Laws.Externs
import Derived.Lib.FrozenHead
import Derived.Lib.AppendStr
namespace Go.Proofs.YtiigclkebnmopaaGreatDoor
open Go.RowKit Go.Shelf

theorem bInfo : (Tryz.prog.info? 84).map (·.size) = some 2 := by kernel_rfl
theorem pLies : liesAt Tryz.prog Tryz.prog.depth 87 (4 / Tryz.prog.cellsOf 87) 0 84 1 = true := by kernel_rfl
/-- the cells of a printer -/
def prC (p v : Value) (bad : Bool) : Array Value := #[p, v, .slice none 0 0, .bool bad]
/-- a printer in its box, with what was written -/
def Pr (w : World) (B b : Nat) (L : List UInt8) (bad : Bool) : Prop :=
  ∃ p v, w.heap[b]? = some (.cells (prC p v bad) 87 (0, 0)) ∧ w.ownsRow B 5 1 v L.length (bytesV L) ∧ (p = .pointer none ∨ p = .pointer (some ⟨b, 0, none⟩)) ∧ B ≤ b
theorem Pr.lt {w : World} {B b : Nat} {L : List UInt8} {bad : Bool} (h : Pr w B b L bad) : b < w.heap.size := by
  obtain ⟨p, v, h, _⟩ := h
  exact (Array.getElem?_eq_some_iff.1 h).1
/-- a block that is no row of bytes -/
def NB (w : World) (k : Nat) : Prop := ∀ cs fz, w.heap[k]? ≠ some (.cells cs 5 fz)
/-- only the printer and rows of bytes have changed, of what was made behind B -/
structure PF (B b : Nat) (w w' : World) : Prop where
  os : w'.os = w.os
  tape : w'.tape = w.tape
  output : w'.output = w.output
  size : w.heap.size ≤ w'.heap.size
  block : ∀ k, k < w.heap.size → k ≠ b → k < B ∨ NB w k → w'.heap[k]? = w.heap[k]?
theorem PF.refl (B b : Nat) (w : World) : PF B b w w := ⟨rfl, rfl, rfl, Nat.le_refl _, fun _ _ _ _ => rfl⟩
theorem PF.trans {B b : Nat} {w w1 w2 : World} (h : PF B b w w1) (k : PF B b w1 w2) : PF B b w w2 := by
  refine ⟨k.os.trans h.os, k.tape.trans h.tape, k.output.trans h.output, Nat.le_trans h.size k.size, fun j hj hb ho => ?_⟩
  have e := h.block j hj hb ho
  refine (k.block j (Nat.lt_of_lt_of_le hj h.size) hb ?_).trans e
  rcases ho with ho | ho
  · exact .inl ho
  · exact .inr fun cs fz => by rw [e]; exact ho cs fz
theorem PF.ofBelow {B b : Nat} {w w' : World} (h : Below w.heap.size w w') : PF B b w w' := ⟨h.os, h.tape, h.output, h.size, fun k hk _ _ => h.block k hk⟩
theorem PF.below {B b : Nat} {w w1 w2 : World} (h : PF B b w w1) (k : Below w1.heap.size w1 w2) : PF B b w w2 := h.trans (.ofBelow k)
theorem own_kp {w w' : World} {B e s : Nat} {v : Value} {n : Nat} {l : List Value} (h : w.ownsRow B e s v n l) (hk : ∀ g, v.ownBlock = some g → w'.heap[g]? = w.heap[g]?) : w'.ownsRow B e s v n l := by
  refine ⟨h.1, ?_⟩
  rcases h.2 with hn | ⟨g, cap, cur, rfl, hb, hg, r⟩
  · exact .inl hn
  · exact .inr ⟨g, cap, cur, rfl, hb, (hk g rfl).trans hg, r⟩
theorem own_ne {w : World} {B b : Nat} {v : Value} {n : Nat} {l : List Value} {T : TypeId} {cs : Array Value} (h : w.ownsRow B 5 1 v n l) (hb : w.heap[b]? = some (.cells cs T (0, 0))) (hT : T ≠ 5) : ∀ g, v.ownBlock = some g → g ≠ b := by
  intro g hg e
  subst e
  rcases h.2 with ⟨rfl, _⟩ | ⟨g', cap, cur, rfl, _, hgg, _⟩
  · simp [Value.ownBlock] at hg
  · simp [Value.ownBlock] at hg
    subst hg
    rw [hb] at hgg
    injection hgg with hgg
    injection hgg with _ hgg
    exact hT hgg
theorem Pr.below {w w' : World} {B b : Nat} {L : List UInt8} {bad : Bool} (h : Pr w B b L bad) (hb : Below w.heap.size w w') : Pr w' B b L bad := by
  obtain ⟨p, v, h1, h2, h3⟩ := h
  exact ⟨p, v, (hb.block b (Array.getElem?_eq_some_iff.1 h1).1).trans h1, own_kp h2 fun g hg => hb.block g (h2.lt g hg).2, h3⟩

set_option maxRecDepth 100000 in
set_option maxHeartbeats 1600000 in
theorem check_used (b : Nat) (w : World) (h0 : w.cell? ⟨b, 0, none⟩ = some (.pointer (some ⟨b, 0, none⟩))) :
    Calls Tryz.prog 141 #[.pointer (some ⟨b, 0, none⟩)] w fun e w' => e = .returned (.tuple #[]) ∧ w' = w := by
  obtain ⟨j, hj, _⟩ := Option.map_eq_some_iff.1 bInfo
  go_enter Tryz.func141, Tryz.ntmps141
  go_wp2
  rw [Lib.run_neq_ptr_same w _ Tryz.underlying81 hj]
  go_wp2
  go_end0
  exact ⟨rfl, rfl⟩
set_option maxRecDepth 100000 in
set_option maxHeartbeats 1600000 in
theorem check_fresh (b : Nat) (w : World) (h0 : w.cell? ⟨b, 0, none⟩ = some (.pointer none)) (hsh : w.shape? b = some (87, 4)) (hfz : w.frozen? ⟨b, 0, none⟩ = false) :
    Calls Tryz.prog 141 #[.pointer (some ⟨b, 0, none⟩)] w fun e w' => e = .returned (.tuple #[]) ∧ w' = w.setCell ⟨b, 0, none⟩ (.pointer (some ⟨b, 0, none⟩)) := by
  obtain ⟨j, hj, hjs⟩ := Option.map_eq_some_iff.1 bInfo
  go_enter Tryz.func141, Tryz.ntmps141
  go_wp2
  rw [Lib.run_to_unsafe w ⟨b, 0, none⟩ Tryz.underlying81 Tryz.underlying250 hj (by rw [hjs]; decide) hsh (show 0 < 4 by decide)]
  simp only [Result.andThen]
  rw [Oper.upon_value]
  go_wp2
  rw [run_callFunc_extern Tryz.func190 (by kernel_rfl) (by kernel_rfl) (by kernel_rfl) (e := Extern.AbiNoEscape.same) (by kernel_rfl)]
  rw [Lib.run_noEscape]
  simp only [Result.andThen]
  rw [Oper.upon_value]
  go_wp2
  rw [Lib.run_from_unsafe w ⟨b, 0, none⟩ Tryz.underlying250 Tryz.underlying81 hj hsh pLies]
  simp only [Result.andThen]
  rw [Oper.upon_value]
  go_wp2
  go_end0
  exact ⟨rfl, rfl⟩
/-- .. a printer that has been looked at -/
def PrU (w : World) (B b : Nat) (L : List UInt8) (bad : Bool) : Prop :=
  ∃ v, w.heap[b]? = some (.cells (prC (.pointer (some ⟨b, 0, none⟩)) v bad) 87 (0, 0)) ∧ w.ownsRow B 5 1 v L.length (bytesV L) ∧ B ≤ b
theorem own_set {w : World} {B b i : Nat} {v u : Value} {n : Nat} {l : List Value} {T : TypeId} {cs : Array Value} (h : w.ownsRow B 5 1 v n l) (hb : w.heap[b]? = some (.cells cs T (0, 0))) (hT : T ≠ 5) : (w.setCell ⟨b, i, none⟩ u).ownsRow B 5 1 v n l :=
  own_kp h fun g hg => heap_setCell_other w ⟨b, i, none⟩ g u (own_ne h hb hT g hg)
theorem check_any (B b : Nat) (L : List UInt8) (bad : Bool) (w : World) (h : Pr w B b L bad) :
    Calls Tryz.prog 141 #[.pointer (some ⟨b, 0, none⟩)] w fun e w' => e = .returned (.tuple #[]) ∧ PrU w' B b L bad ∧ PF B b w w' := by
  obtain ⟨p, v, h1, h2, h4, h5⟩ := h
  rcases h4 with rfl | rfl
  · refine (check_fresh b w (by simp [World.cell?, h1, prC]) (by simp [World.shape?, h1, prC]) (by simp [World.frozen?, h1])).mono ?_
    rintro e w' ⟨rfl, rfl⟩
    have hk := heap_setCell_same w b 0 (prC (.pointer none) v bad) 87 (.pointer (some ⟨b, 0, none⟩)) h1
    exact ⟨rfl, ⟨v, by rw [hk]; rfl, own_set h2 h1 (by decide), h5⟩, ⟨rfl, rfl, rfl, by simp [World.setCell], fun k hk hb _ => heap_setCell_other w ⟨b, 0, none⟩ k _ hb⟩⟩
  · refine (check_used b w (by simp [World.cell?, h1, prC])).mono ?_
    rintro e w' ⟨rfl, rfl⟩
    exact ⟨rfl, ⟨v, h1, h2, h5⟩, PF.refl _ _ _⟩
theorem PF.grown {B b : Nat} {w w1 w' : World} {v : Value} {n : Nat} {l : List Value} (h : PF B b w w1) (ho : w1.ownsRow B 5 1 v n l) (hg : w1.grownBy w' v.ownBlock) : PF B b w w' := by
  refine h.trans ⟨hg.os, hg.tape, hg.output, hg.size, fun k hk _ hc => hg.block k hk fun e => ?_⟩
  rcases ho.2 with ⟨rfl, _⟩ | ⟨g, cap, cur, rfl, hb, hgg, _⟩
  · simp [Value.ownBlock] at e
  · simp [Value.ownBlock] at e
    subst e
    rcases hc with hc | hc
    · omega
    · exact hc _ _ hgg
theorem PF.set {B b i : Nat} {w w1 : World} {v : Value} (h : PF B b w w1) : PF B b w (w1.setCell ⟨b, i, none⟩ v) :=
  h.trans ⟨rfl, rfl, rfl, by simp [World.setCell], fun k _ hb _ => heap_setCell_other w1 ⟨b, i, none⟩ k v hb⟩

set_option maxRecDepth 100000 in
set_option maxHeartbeats 3200000 in
/-- a text is written -/
theorem ws_any (B b : Nat) (L S : List UInt8) (bad : Bool) (w : World) (h : Pr w B b L bad) (hl : L.length + S.length ≤ 1000000000) (hBw : B ≤ w.heap.size) :
    Calls Tryz.prog 85 #[.pointer (some ⟨b, 0, none⟩), .string (toB S)] w fun e w' => e = .returned (.tuple #[.int .i64 (S.length : Int), .nilIface]) ∧ Pr w' B b (L ++ S) bad ∧ PF B b w w' := by
  have hsz := toB_size S
  have HC := Lib.hid (check_any B b L bad w h)
  obtain ⟨i0, hi0, hz0, hz1, hz2⟩ := info_parts byteInfo
  clear h
  go_enter Tryz.func85, Tryz.ntmps85
  go_wp2_with fail
  refine HC.out.mono ?_
  rintro e w1 ⟨rfl, ⟨v, hk, ho, hBb⟩, hpf⟩
  have HO := Lib.hid ho
  obtain ⟨A, cp, rfl⟩ := own_form ho
  have HK := Lib.hid hk
  have HPF := Lib.hid hpf
  have hB1 : B ≤ w1.heap.size := Nat.le_trans hBw hpf.size
  have hlt : b < w1.heap.size := (Array.getElem?_eq_some_iff.1 hk).1
  have hne := Lib.hid (own_ne ho hk (by decide))
  have c0 : ∀ j, w1.cell? ⟨b, j, none⟩ = (prC (.pointer (some ⟨b, 0, none⟩)) (.slice A L.length cp) bad)[j]? := fun j => by simp [World.cell?, hk]
  unfold prC at c0
  clear ho hk HC hpf
  go_wp2_with (at_builtin; refine Lib.wpList_append_own_string _ rfl _ _ 82 9 rfl B 5 i0 Tryz.underlying82 Tryz.underlying9 hi0 hz0 hz1 hz2 _ L.length _ rfl HO.out (toB S) rfl ?c3 ?c4 ?c5 ?_)
  case c3 => unfold maxLen; omega
  case c4 => omega
  case c5 => omega
  intro v6 w6 hown6 hg6 _
  have hap : bytesV L ++ Lib.strCells (toB S) = bytesV (L ++ S) := by
    unfold Lib.strCells
    rw [show (toB S).data.toList = S from rfl]
    simp [bytesV]
  rw [hap, ← List.length_append] at hown6
  have hk6 := (hg6.block b hlt (fun e => hne.out b e.symm rfl)).trans HK.out
  have HK7 := Lib.hid (heap_setCell_same w6 b 1 _ _ v6 hk6)
  have HO7 := Lib.hid (own_set (i := 1) (u := v6) hown6 hk6 (by decide))
  have HPF7 := Lib.hid (show PF B b w (w6.setCell ⟨b, 1, none⟩ v6) from (HPF.out.grown HO.out hg6).set)
  have c6 : ∀ j, w6.cell? ⟨b, j, none⟩ = (prC (.pointer (some ⟨b, 0, none⟩)) (.slice A L.length cp) bad)[j]? := fun j => by simp [World.cell?, hk6]
  have z6 : ∀ j, w6.frozen? ⟨b, j, none⟩ = false := fun j => by simp [World.frozen?, hk6]
  unfold prC at c6
  have HFin := Lib.hid (show Pr (w6.setCell ⟨b, 1, none⟩ v6) B b (L ++ S) bad from ⟨_, _, HK7.out, HO7.out, .inr rfl, hBb⟩)
  obtain ⟨A7, c7, rfl⟩ := own_form hown6
  rw [List.length_append] at HFin HPF7
  clear hown6 hg6 hk6 c0 HK7 HO7
  go_wp2_with fail
  exact bodyPost_ret (v := .tuple #[.int .i64 (S.length : Int), .nilIface]) (by simp [results, Tryz.results85, go_sem]) rfl ⟨rfl, HFin.out, HPF7.out⟩

end Go.Proofs.YtiigclkebnmopaaGreatDoor
