/- TopJoined: the columns of lines that are cut out and put side by side give the lines again; a text that is joined with itself by its lines has each line with each equal one. For every list of rows. No condition. -/
import Derived.Test.YtppnhdcnjbjibaaGreatDoorTjWalk
import Derived.Test.YtppnhdcnjbjibaaGreatDoorClose
import Derived.Test.YtppnhdcnjbjibaaGreatDoorCards
import Derived.Test.YtppnhdcnjbjibaaGreatDoorTie
import Derived.OpenShut
import Derived.DataShut
import Derived.SizedLaws
import Derived.Deep.Slices
import Derived.Laws.IdiomArrays
namespace Go.Proofs.YtppnhdcnjbjibaaGreatDoor.TjMain
open Go.RowKit Go.ChangeShapes Go.WideShapes Go.ChangeAt Go.Joins

theorem params_fine : (Tryz.f3.params.toList.all fun t => Tryz.prog.readableRec t && decide (t < Tryz.prog.types.size)) = true := by kernel_rfl

theorem cellsStr : Tryz.prog.cellsOf 9 = 1 := by kernel_rfl
theorem cellsRow : Tryz.prog.cellsOf 24 = 3 := by kernel_rfl
theorem bytesRow : Tryz.prog.bytesOf 24 = 48 := by kernel_rfl
set_option maxRecDepth 100000 in
/-- rows that came in -/
theorem open_rows {H : Type} {enc : TypeId × Value → H} {W : World} {r : Reach} {b0 : Nat} {v : Value} {d : DataW H} {p : List MemPlace}
    (hval : Value.okWide Tryz.prog W r b0 22 v) (h : DataW.Trod enc Tryz.prog W 0 (fun _ => true) true 22 v d p) :
    ∃ R : List R3, RowsAt W v R ∧ (∀ z ∈ R, z.1.size ≤ maxLen ∧ z.2.1.size ≤ maxLen ∧ z.2.2.size ≤ maxLen) ∧ (R = [] ∨ ∃ E F, d = .slice E F ∧ R.length ≤ E.length + F.length) := by
  obtain ⟨a0, len, cap, rfl⟩ := okWide_slice Tryz.underlying22 hval
  obtain ⟨fuel, hf⟩ := h
  rcases Go.Deep.open_slice Tryz.underlying22 hf with ⟨hcs, _⟩ | ⟨a, len', cap', m, n, D, Pl, hcs, _, hl, hm, hmm, hx, hi⟩
  · have hcs' : Value.slice a0 len cap = .slice none 0 0 := by simpa [Value.cells] using hcs
    rw [hcs']
    exact ⟨[], ⟨none, 0, rfl, Nat.le_refl _, fun h => absurd h (Nat.lt_irrefl _)⟩, by simp, .inl rfl⟩
  · have hcs' : Value.slice a0 len cap = .slice (some a) len' cap' := by simpa [Value.cells] using hcs
    rw [hcs']
    simp only [if_true] at hmm
    have key : ∀ i, ∃ z : R3, i < len' → (W.cell? (a.add (i * 3)) = some (.string z.1) ∧ W.cell? (a.add (i * 3 + 1)) = some (.string z.2.1) ∧ W.cell? (a.add (i * 3 + 2)) = some (.string z.2.2)) ∧ z.1.size ≤ maxLen ∧ z.2.1.size ≤ maxLen ∧ z.2.2.size ≤ maxLen := fun i => by
      by_cases hil : i < len'
      · obtain ⟨cs', hc, ht⟩ := hi i (by omega)
        rw [cellsRow] at hc
        obtain ⟨_, hcl, hat⟩ := World.cells?_some hc
        match cs', hcl with
        | [q0, q1, q2], _ =>
          obtain ⟨y0, y1, y2, k, _, g0, g1, g2⟩ := trod_array3 Tryz.underlying24 cellsStr ht
          obtain ⟨s0, e0, _, z0⟩ := DataW.trod_string Tryz.underlying9 g0
          obtain ⟨s1, e1, _, z1⟩ := DataW.trod_string Tryz.underlying9 g1
          obtain ⟨s2, e2, _, z2⟩ := DataW.trod_string Tryz.underlying9 g2
          injection e0 with e0
          injection e1 with e1
          injection e2 with e2
          subst e0 e1 e2
          have h0 := hat 0 (by omega)
          have h1 := hat 1 (by omega)
          have h2 := hat 2 (by omega)
          rw [Go.Deep.add_add] at h0 h1 h2
          exact ⟨(s0, s1, s2), fun _ => ⟨⟨by simpa using h0, by simpa using h1, by simpa using h2⟩, z0, z1, z2⟩⟩
      · exact ⟨(⟨#[]⟩, ⟨#[]⟩, ⟨#[]⟩), fun h => absurd h hil⟩
    obtain ⟨f, hfk⟩ := Classical.axiomOfChoice key
    have hlen : ((List.range len').map f).length = len' := by simp
    injection hx with hx _
    refine ⟨(List.range len').map f, ⟨some a, cap', by rw [hlen], by omega, fun hp => ?_⟩, fun z hz => ?_, .inr ⟨_, _, hx, by simp⟩⟩
    · rw [hlen] at hp
      obtain ⟨⟨h0, _⟩, _⟩ := hfk 0 hp
      obtain ⟨b, off, spot⟩ := a
      have hspot : spot = none := by simpa [Addr.add] using World.cell?_spot h0
      subst hspot
      refine ⟨b, off, rfl, ?_, fun j hj => ?_⟩
      · have := World.block_lt_of_cell? W _ h0
        rwa [add_plain] at this
      · rw [hlen] at hj
        obtain ⟨⟨h1, h2, h3⟩, _⟩ := hfk j hj
        rw [add_plain] at h1 h2 h3
        simp only [List.getElem_map, List.getElem_range]
        exact ⟨h1, by rw [← h2, Nat.add_assoc], by rw [← h3, Nat.add_assoc]⟩
    · obtain ⟨i, hi', rfl⟩ := List.mem_map.1 hz
      exact (hfk i (by simpa using hi')).2
set_option maxRecDepth 100000 in
theorem contract (H : Type) (enc : TypeId × Value → H) (W : World) (base : Nat) (args : Array Value) (ds gs : List (DataW H)) (before : List MemPlace)
    (hval : ∀ (j : Nat) t v, Tryz.f3.params[j]? = some t → args[j]? = some v → Value.okWide Tryz.prog W .any base t v)
    (hW : DataW.Whole enc Tryz.prog Tryz.f3.params.toList Rows.topJoinedSpec.vars false W args.toList ds gs before) (hwt : (DataW.weightsEach Tryz.prog (Tryz.f3.params.toList ++ (OpenSpec.ofChange Rows.topJoinedSpec).bare.plain.varTypes Tryz.prog) (ds ++ gs)).all (· ≤ reachBytes) = true) (_hL : laidMetH Tryz.prog Rows.topJoinedRow.laid W) (_hsh : W.ShapedOpen Tryz.prog) :
    Calls Tryz.prog 3 args W fun e W' => ∃ v, e = .returned v ∧ Rows.topJoinedSpec.post enc Tryz.prog Tryz.f3 false true false false W args v W' := by
  have hW' := hW
  obtain ⟨p, q, hA0, hV, rfl, hfz, hnd⟩ := hW
  have hA : DataW.TrodAll enc Tryz.prog W 0 (fun _ => true) true Tryz.f3.params.toList args.toList ds p := hA0
  rw [Tryz.params3] at hA hval hwt
  obtain ⟨v0, d0, rfl, rfl, h0⟩ := trodAll_one hA
  obtain ⟨rfl, rfl⟩ := trodVars_none hV
  obtain ⟨R, hR, hs, hn⟩ := open_rows (hval 0 22 v0 rfl rfl) h0
  have hll : R.length ≤ 9000000000000000 := by
    rcases hn with rfl | ⟨E, F, rfl, hle⟩
    · simp
    · have h9 := sized_slice hwt (j := 0) (t := 22) rfl rfl Tryz.underlying22
      rw [bytesRow] at h9
      have := reachBytes_lt
      omega
  refine (joined_law R hll v0 W hR (mx_of _hsh) hs).mono fun e W' ⟨he, hb⟩ => ⟨_, he, ?_⟩
  exact law_post laidOut (params_ok params_fine) rfl (by kernel_rfl) Tryz.underlying4 hW' hb rfl

/-- the cells of a listed table -/
def tabOf (d : DataW Unit) : Array Value := match d with
  | .agg l => (l.flatMap fun
    | .lit (.int k n) => [Value.int k n]
    | .agg m => m.map fun | .lit (.int k n) => Value.int k n | _ => .bool false
    | _ => [.bool false]).toArray
  | _ => #[]
/-- a world for the witness: the settled one, the listed tables and errors holding what their initialisers lay -/
noncomputable def laidWorld (os : Os) : World :=
  { World.holding Tryz.prog os ⟨#[], #[], []⟩ with heap := ((((((World.holding Tryz.prog os ⟨#[], #[], []⟩).heap.modify 4 fun
      | .cells _ t frozen => .cells (tabOf Rows.laid_math_bits_deBruijn32tab) t frozen
      | o => o).modify 5 fun
      | .cells _ t frozen => .cells (tabOf Rows.laid_math_bits_deBruijn64tab) t frozen
      | o => o).modify 3 fun
      | .cells _ t frozen => .cells (tabOf Rows.laid_internal_strconv_uint64pow10) t frozen
      | o => o).modify 2 fun
      | .cells _ t frozen => .cells (tabOf Rows.laid_unicode_utf8_acceptRanges) t frozen
      | o => o).modify 1 fun
      | .cells _ t frozen => .cells (tabOf Rows.laid_unicode_utf8_first) t frozen
      | o => o) }
def wargs : Array Value := #[.slice none 0 0]
theorem laid_met (os : Os) : laidMet Tryz.prog Rows.topJoinedRow.laid ((laidWorld os).forCall (fun _ _ => 0) ⟨#[], wargs, []⟩).memory :=
  laidMet_of_run' 8 (by kernel_rfl) (by kernel_rfl)
theorem reads (os : Os) {H : Type} (enc : TypeId × Value → H) : ∃ places, DataW.whole enc Tryz.prog ((laidWorld os).forCall (fun _ _ => 0) ⟨#[], wargs, []⟩).memory Tryz.f3.params.toList Rows.topJoinedSpec.vars false wargs.toList 8 = some ([.nil], [], places) :=
  ⟨[], by kernel_rfl⟩

set_option maxRecDepth 100000 in
theorem lifted (os : Os) (started : os.Started) (H : Type) (enc : TypeId × Value → H) (F : Stop.Interp) :
    ReturnsInHanded {} Tryz.checked os 3 .any ((OpenSpec.ofChange Rows.topJoinedSpec).preRow enc Tryz.prog Tryz.f3 Rows.topJoinedRow.domain false Rows.topJoinedRow.laid) (((OpenSpec.ofChange Rows.topJoinedSpec).at F).post enc Tryz.prog Tryz.f3 false true false false) := by
  obtain ⟨places, hx⟩ := reads os enc
  refine returnsInHanded_of_row (C := Tryz.checked) (s := OpenSpec.ofChange Rows.topJoinedSpec) own started (by kernel_rfl) Tryz.func3
    (witness_row_at (enc := enc) (C := Tryz.checked) false (laidWorld os) wargs rfl (by kernel_rfl) (by kernel_rfl) (by kernel_rfl)
      (OpenSpec.preRow_of_cond 8 hx (by kernel_rfl) (fun k hk => by cases hk) (by kernel_rfl) (laid_met os))) ?_
  intro W base args ds gs before hval hW _ _ hwt hL hsh _
  exact contract H enc W base args ds gs before hval hW hwt hL hsh

theorem said : Rows.TopJoinedSaid :=
  OpenClaim.holds_of_cond 3 Tryz.f3 rfl rfl rfl rfl rfl rfl rfl ⟨rfl, rfl, rfl, rfl, rfl⟩ rfl rfl rfl rfl rfl (by kernel_rfl) Tryz.func3 (by kernel_rfl)
    (of_decide_eq_true (by kernel_rfl)) (by unfold Func.isWrapper; first | (rw [if_pos (by decide +kernel)]; kernel_rfl) | (rw [if_neg (by decide +kernel)]; exact ⟨rfl, rfl⟩))
    (fun os started H enc _ F => by rw [OpenClaim.pre_eq_preRow]; exact lifted os started H enc F)

theorem no_stand (l : List TypeId) (h : (l.all fun t => !(Tryz.pinned.checked.prog.wantsStandIn t)) = true) (t : TypeId) (ht : t ∈ l) : Tryz.pinned.checked.prog.wantsStandIn t = false := by
  simpa using List.all_eq_true.1 h t ht
theorem plain (f : FuncId) (fn : Func) (hf : Tryz.pinned.checked.prog.funcNamed "periwinkle/periwinkletop.TopJoined" = some f) (hfn : Tryz.pinned.checked.prog.funcs[f]? = some fn) :
    false = Tryz.pinned.checked.prog.looks [] ∧ ∀ (j : Nat) t, fn.params[j]? = some t → Tryz.pinned.checked.prog.wantsStandIn t = false := by
  obtain rfl : f = 3 := Option.some.inj ((show Tryz.prog.funcNamed "periwinkle/periwinkletop.TopJoined" = some 3 by kernel_rfl).symm.trans hf) |>.symm
  obtain rfl : fn = Tryz.f3 := (Option.some.inj (Tryz.func3.symm.trans hfn)).symm
  refine ⟨by kernel_rfl, fun j t ht => ?_⟩
  rw [Tryz.params3] at ht
  exact no_stand [22] (by kernel_rfl) t (by simpa using Array.mem_of_getElem? ht)

theorem card : Rows.TopJoinedCardSaid :=
  Claim7.holds_tied_plain_at .later [] _ _ _ _ said (fun _ h => by cases h) (by kernel_rfl) (fun _ h => by cases h) topJoined_row_tie rfl ⟨rfl, rfl⟩ (by kernel_rfl) rfl plain (by kernel_rfl)

end Go.Proofs.YtppnhdcnjbjibaaGreatDoor.TjMain
