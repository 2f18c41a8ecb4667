/- SetIsGot: for each input the law answers true. No condition. -/
import Derived.Test.YtiapondfajmkaaaGreatDoorSiWalk
import Derived.Test.YtiapondfajmkaaaGreatDoorClose
import Derived.Test.YtiapondfajmkaaaGreatDoorSiGreat
import Derived.Test.YtiapondfajmkaaaGreatDoorSiJoined
import Derived.Test.YtiapondfajmkaaaGreatDoorCards
import Derived.Test.YtiapondfajmkaaaGreatDoorTie
import Derived.OpenShut
import Derived.DataShut
import Derived.SizedLaws
import Derived.SliceStrings
namespace Go.Proofs.YtiapondfajmkaaaGreatDoor.SiMain
open Go.RowKit Go.ChangeShapes Go.WideShapes Go.ChangeAt Go.Joins
open Go.ChangeMaps (open_string shut_string)

theorem params_fine : (Tryz.f3.params.toList.all fun t => Tryz.prog.readableRec t && decide (t < Tryz.prog.types.size)) = true := by kernel_rfl

theorem cellsStr : Tryz.prog.cellsOf 9 = 1 := by kernel_rfl
theorem bytesStr : Tryz.prog.bytesOf 9 = 16 := by kernel_rfl
set_option maxRecDepth 100000 in
/-- a slice of texts that came in -/
theorem open_texts {H : Type} {enc : TypeId × Value → H} {W : World} {r : Reach} {b0 : Nat} {v : Value} {d : DataW H} {p : List MemPlace}
    (hval : Value.okWide Tryz.prog W r b0 22 v) (h : DataW.Trod enc Tryz.prog W 0 (fun _ => true) true 22 v d p) :
    ∃ l : List ByteArray, AL W v l ∧ (l = [] ∨ ∃ E F, d = .slice E F ∧ l.length ≤ E.length) := by
  obtain ⟨a0, len, cap, rfl⟩ := okWide_slice Tryz.underlying22 hval
  obtain ⟨fuel, hf⟩ := h
  rcases open_strings Tryz.underlying22 Tryz.underlying9 cellsStr hf with ⟨hcs, _⟩ | ⟨a, len', cap', ss, hcs, _, hl, hm, hz, hx, hcell, hws⟩
  · have hcs' : Value.slice a0 len cap = .slice none 0 0 := by simpa [Value.cells] using hcs
    rw [hcs']
    exact ⟨[], ⟨none, 0, rfl, Nat.le_refl _, fun h => absurd h (Nat.lt_irrefl _)⟩, .inl rfl⟩
  · have hcs' : Value.slice a0 len cap = .slice (some a) len' cap' := by simpa [Value.cells] using hcs
    rw [hcs']
    simp only [if_true] at hz
    have hlen : (ss.take len').length = len' := by rw [List.length_take]; omega
    injection hx with hx _
    refine ⟨ss.take len', ⟨some a, cap', by rw [hlen], by omega, fun hp => ?_⟩, .inr ⟨_, _, hx, by unfold strs; rw [List.length_map]; exact Nat.le_refl _⟩⟩
    rw [hlen] at hp
    have h0 := hcell 0 (by omega)
    obtain ⟨b, off, spot⟩ := a
    have hspot : spot = none := by simpa [Addr.add] using World.cell?_spot h0
    subst hspot
    refine ⟨b, off, rfl, ?_, fun j hj => ?_⟩
    · rw [add_plain] at h0
      rcases Nat.lt_or_ge b W.heap.size with h | h
      · exact h
      · simp [World.cell?, Array.getElem?_eq_none h] at h0
    · rw [hlen] at hj
      have := hcell j (by omega)
      rw [add_plain] at this
      rw [this, List.getElem_take]
      simp [List.getElem?_eq_getElem (show j < ss.length by omega)]
set_option maxRecDepth 100000 in
theorem contract (H : Type) (enc : TypeId × Value → H) (W : World) (base : Nat) (args : Array Value) (ds gs : List (DataW H)) (before : List MemPlace)
    (hval : ∀ (j : Nat) t v, Tryz.f3.params[j]? = some t → args[j]? = some v → Value.okWide Tryz.prog W .any base t v)
    (hW : DataW.Whole enc Tryz.prog Tryz.f3.params.toList Rows.setIsGotSpec.vars false W args.toList ds gs before) (hwt : (DataW.weightsEach Tryz.prog (Tryz.f3.params.toList ++ (OpenSpec.ofChange Rows.setIsGotSpec).bare.plain.varTypes Tryz.prog) (ds ++ gs)).all (· ≤ reachBytes) = true) (_hL : laidMetH Tryz.prog Rows.setIsGotRow.laid W) (_hsh : W.ShapedOpen Tryz.prog) :
    Calls Tryz.prog 3 args W fun e W' => ∃ v, e = .returned v ∧ Rows.setIsGotSpec.post enc Tryz.prog Tryz.f3 false true false false W args v W' := by
  have hW' := hW
  obtain ⟨p, q, hA0, hV, rfl, hfz, hnd⟩ := hW
  have hA : DataW.TrodAll enc Tryz.prog W 0 (fun _ => true) true Tryz.f3.params.toList args.toList ds p := hA0
  rw [Tryz.params3] at hA hval hwt
  obtain ⟨v0, v1, v2, v3, d0, d1, d2, d3, p0, p1, p2, p3, rfl, rfl, rfl, h0, h1, h2, h3⟩ := trodAll_four hA
  obtain ⟨rfl, rfl⟩ := trodVars_none hV
  obtain ⟨l, hl, hn⟩ := open_texts (hval 0 22 v0 rfl rfl) h0
  obtain ⟨i1, rfl, rfl, rfl, _⟩ := open_int Tryz.underlying3 (hval 1 3 v1 rfl rfl) h1
  obtain ⟨s, rfl, rfl, rfl, hs⟩ := open_string Tryz.underlying9 (hval 2 9 v2 rfl rfl) h2
  obtain ⟨s2, rfl, rfl, rfl, hs2⟩ := open_string Tryz.underlying9 (hval 3 9 v3 rfl rfl) h3
  have hll : l.length ≤ 4611686018427387903 := by
    rcases hn with rfl | ⟨E, F, rfl, hle⟩
    · simp
    · have h9 := sized_slice hwt (j := 0) (t := 22) rfl rfl Tryz.underlying22
      rw [bytesStr] at h9
      have := reachBytes_lt
      omega
  obtain ⟨A, c, rfl, hrest⟩ : ∃ A c, v0 = .slice A l.length c ∧ AL W v0 l := by
    obtain ⟨A, c, e, h⟩ := hl
    exact ⟨A, c, e, ⟨A, c, e, h⟩⟩
  refine (setgot_law l A l.length c i1 s s2 W hrest hll (by have h9 := sized_string hwt (j := 2) (t := 9) rfl rfl; have := size_toList s; have h10 := sized_string hwt (j := 3) (t := 9) rfl rfl; have := size_toList s2; have := reachBytes_lt; omega)).mono fun e W' ⟨he, hb⟩ => ⟨_, he, ?_⟩
  exact law_post laidOut (params_ok params_fine) rfl (by kernel_rfl) Tryz.underlying4 hW' hb rfl

/-- the cells of a listed table -/
def tabOf (d : DataW Unit) : Array Value := match d with
  | .agg l => (l.flatMap fun
    | .lit (.int k n) => [Value.int k n]
    | .agg m => m.map fun | .lit (.int k n) => Value.int k n | _ => .bool false
    | _ => [.bool false]).toArray
  | _ => #[]
/-- a world for the witness: the settled one, the listed tables and errors holding what their initialisers lay -/
noncomputable def laidWorld (os : Os) : World :=
  { World.holding Tryz.prog os ⟨#[], #[], []⟩ with heap := ((((((World.holding Tryz.prog os ⟨#[], #[], []⟩).heap.modify 4 fun
      | .cells _ t frozen => .cells (tabOf Rows.laid_math_bits_deBruijn32tab) t frozen
      | o => o).modify 5 fun
      | .cells _ t frozen => .cells (tabOf Rows.laid_math_bits_deBruijn64tab) t frozen
      | o => o).modify 1 fun
      | .cells _ t frozen => .cells (tabOf Rows.laid_internal_strconv_uint64pow10) t frozen
      | o => o).modify 3 fun
      | .cells _ t frozen => .cells (tabOf Rows.laid_unicode_utf8_acceptRanges) t frozen
      | o => o).modify 2 fun
      | .cells _ t frozen => .cells (tabOf Rows.laid_unicode_utf8_first) t frozen
      | o => o) }
def wargs : Array Value := #[.slice none 0 0, .int .i64 0, .string .empty, .string .empty]
theorem laid_met (os : Os) : laidMet Tryz.prog Rows.setIsGotRow.laid ((laidWorld os).forCall (fun _ _ => 0) ⟨#[], wargs, []⟩).memory :=
  laidMet_of_run' 8 (by kernel_rfl) (by kernel_rfl)
theorem reads (os : Os) {H : Type} (enc : TypeId × Value → H) : ∃ places, DataW.whole enc Tryz.prog ((laidWorld os).forCall (fun _ _ => 0) ⟨#[], wargs, []⟩).memory Tryz.f3.params.toList Rows.setIsGotSpec.vars false wargs.toList 8 = some ([.nil, .lit (.int .i64 0), .lit (.string []), .lit (.string [])], [], places) :=
  ⟨[], by kernel_rfl⟩

set_option maxRecDepth 100000 in
theorem lifted (os : Os) (started : os.Started) (H : Type) (enc : TypeId × Value → H) (F : Stop.Interp) :
    ReturnsInHanded {} Tryz.checked os 3 .any ((OpenSpec.ofChange Rows.setIsGotSpec).preRow enc Tryz.prog Tryz.f3 Rows.setIsGotRow.domain false Rows.setIsGotRow.laid) (((OpenSpec.ofChange Rows.setIsGotSpec).at F).post enc Tryz.prog Tryz.f3 false true false false) := by
  obtain ⟨places, hx⟩ := reads os enc
  refine returnsInHanded_of_row (C := Tryz.checked) (s := OpenSpec.ofChange Rows.setIsGotSpec) own started (by kernel_rfl) Tryz.func3
    (witness_row_at (enc := enc) (C := Tryz.checked) false (laidWorld os) wargs rfl (by kernel_rfl) (by kernel_rfl) (by kernel_rfl)
      (OpenSpec.preRow_of_cond 8 hx (by kernel_rfl) (fun k hk => by cases hk) (by kernel_rfl) (laid_met os))) ?_
  intro W base args ds gs before hval hW _ _ hwt hL hsh _
  exact contract H enc W base args ds gs before hval hW hwt hL hsh

theorem said : Rows.SetIsGotSaid :=
  OpenClaim.holds_of_cond 3 Tryz.f3 rfl rfl rfl rfl rfl rfl rfl ⟨rfl, rfl, rfl, rfl, rfl⟩ rfl rfl rfl rfl rfl (by kernel_rfl) Tryz.func3 joined
    (of_decide_eq_true (by kernel_rfl)) (by unfold Func.isWrapper; first | (rw [if_pos (by decide +kernel)]; kernel_rfl) | (rw [if_neg (by decide +kernel)]; exact ⟨rfl, rfl⟩))
    (fun os started H enc _ F => by rw [OpenClaim.pre_eq_preRow]; exact lifted os started H enc F)

theorem no_stand (l : List TypeId) (h : (l.all fun t => !(Tryz.pinned.checked.prog.wantsStandIn t)) = true) (t : TypeId) (ht : t ∈ l) : Tryz.pinned.checked.prog.wantsStandIn t = false := by
  simpa using List.all_eq_true.1 h t ht
theorem plain (f : FuncId) (fn : Func) (hf : Tryz.pinned.checked.prog.funcNamed "periwinkle/periwinklelaw2.SetIsGot" = some f) (hfn : Tryz.pinned.checked.prog.funcs[f]? = some fn) :
    true = Tryz.pinned.checked.prog.looks [] ∧ ∀ (j : Nat) t, fn.params[j]? = some t → Tryz.pinned.checked.prog.wantsStandIn t = false := by
  obtain rfl : f = 3 := Option.some.inj ((show Tryz.prog.funcNamed "periwinkle/periwinklelaw2.SetIsGot" = some 3 by kernel_rfl).symm.trans hf) |>.symm
  obtain rfl : fn = Tryz.f3 := (Option.some.inj (Tryz.func3.symm.trans hfn)).symm
  refine ⟨by kernel_rfl, fun j t ht => ?_⟩
  rw [Tryz.params3] at ht
  exact no_stand [22, 3, 9, 9] (by kernel_rfl) t (by simpa using Array.mem_of_getElem? ht)

theorem card : Rows.SetIsGotCardSaid :=
  Claim7.holds_tied_plain_at .later [] _ _ _ _ said (fun _ h => by cases h) (by kernel_rfl) (fun _ h => by cases h) setIsGot_row_tie rfl ⟨rfl, rfl⟩ (by kernel_rfl) rfl plain (by with_reducible exact goesT)

end Go.Proofs.YtiapondfajmkaaaGreatDoor.SiMain
