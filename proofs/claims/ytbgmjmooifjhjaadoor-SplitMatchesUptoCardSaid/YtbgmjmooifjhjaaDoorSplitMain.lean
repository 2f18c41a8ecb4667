/- SplitMatches: Split divides each text as the reference does. Condition: what the law reads is of bulk at most 1048576 (the narrowed form). -/
import Derived.Test.YtbgmjmooifjhjaaDoorSplitF
import Derived.Test.YtbgmjmooifjhjaaDoorSplitJ
import Derived.Test.YtbgmjmooifjhjaaDoorClose
import Derived.Test.YtbgmjmooifjhjaaDoorCards
import Derived.Test.YtbgmjmooifjhjaaDoorTie
namespace Go.Proofs.YtbgmjmooifjhjaaDoor.SplitMain
open Go.RowKit Go.ChangeShapes Go.WideShapes Go.ChangeAt Go.Joins
open Go.ChangeMaps (open_string shut_string)

set_option maxRecDepth 100000 in
set_option maxHeartbeats 1600000 in
theorem walk (t s : ByteArray) (w : World) (ht : t.size ≤ 1048576) (hs : s.size ≤ 1048576) :
    Calls Tryd.prog 4 #[.string t, .string s] w fun e w' => e = .returned (.bool true) ∧ Below w.heap.size w w' := by
  have hlen : ((splitL t.data.toList s.data.toList).map fun l => (⟨l.toArray⟩ : ByteArray)).length ≤ 9223372036854775807 := by
    rw [List.length_map]
    have h := divL_len (inL (blankF s.data.toList)) (inL (wideF s.data.toList)) _ t.data.toList [] (Nat.le_refl _)
    rw [size_toList] at h
    unfold splitL
    omega
  have HE := Lib.hid (fun W v u (h1 : SL W v ((splitL t.data.toList s.data.toList).map fun l => (⟨l.toArray⟩ : ByteArray))) (h2 : SL W u ((splitL t.data.toList s.data.toList).map fun l => (⟨l.toArray⟩ : ByteArray))) => equal_any _ _ v u W h1 h2 hlen)
  have HP := Lib.hid (fun W => split_any t s W (by omega) (by omega))
  have HR := Lib.hid (fun W => rsplit_any t s W (by omega))
  clear hlen
  generalize (splitL t.data.toList s.data.toList).map (fun l => (⟨l.toArray⟩ : ByteArray)) = fs at *
  go_enter Tryd.func4, Tryd.ntmps4
  go_wp2_with fail
  refine (landed_any w).mono ?_
  rintro e w1 ⟨rfl, hb1⟩
  go_wp2_with fail
  refine (HP.out w1).mono ?_
  rintro e w2 ⟨v2, rfl, hs2, hb2⟩
  have HS2 := Lib.hid hs2
  obtain ⟨A2, c2, rfl, _, hz⟩ := hs2
  have HB2 := Lib.hid (hb1.trans (hb2.mono hb1.size))
  clear hz hb1 hb2
  go_wp2_with fail
  refine (HR.out w2).mono ?_
  rintro e w3 ⟨v3, rfl, hs3, hb3⟩
  have HS3 := Lib.hid hs3
  have HS2' := Lib.hid (HS2.out.keep hb3)
  obtain ⟨A3, c3, rfl, _, hz⟩ := hs3
  have HB3 := Lib.hid (HB2.out.trans (hb3.mono HB2.out.size))
  clear hz hb3
  go_wp2_with fail
  refine (HE.out _ _ _ HS2'.out HS3.out).mono ?_
  rintro e w4 ⟨rfl, hb4⟩
  have HB4 := Lib.hid (HB3.out.trans (hb4.mono HB3.out.size))
  clear hb4
  go_wp2_with fail
  go_ret
  exact ⟨ret_bool (by simp), HB4.out⟩

theorem params_fine : (Tryd.f4.params.toList.all fun t => Tryd.prog.readableRec t && decide (t < Tryd.prog.types.size)) = true := by kernel_rfl

set_option maxRecDepth 100000 in
theorem contract (H : Type) (enc : TypeId × Value → H) (W : World) (base : Nat) (args : Array Value) (ds gs : List (DataW H)) (before : List MemPlace)
    (hval : ∀ (j : Nat) t v, Tryd.f4.params[j]? = some t → args[j]? = some v → Value.okWide Tryd.prog W .any base t v)
    (hW : DataW.Whole enc Tryd.prog Tryd.f4.params.toList Rows.splitMatchesSpec.vars false W args.toList ds gs before) (_hL : laidMetH Tryd.prog Rows.splitMatchesUptoRow.laid W) (_hsh : W.ShapedOpen Tryd.prog) (hcond : Rows.uptoSmall H (ds ++ gs) = true) :
    Calls Tryd.prog 4 args W fun e W' => ∃ v, e = .returned v ∧ Rows.splitMatchesSpec.post enc Tryd.prog Tryd.f4 false true false false W args v W' := by
  have hW' := hW
  obtain ⟨p, q, hA0, hV, rfl, hfz, hnd⟩ := hW
  have hA : DataW.TrodAll enc Tryd.prog W 0 (fun _ => true) true Tryd.f4.params.toList args.toList ds p := hA0
  rw [Tryd.params4] at hA hval
  obtain ⟨v0, v1, d0, d1, p0, p1, rfl, rfl, rfl, h0, h1⟩ := trodAll_two hA
  obtain ⟨rfl, rfl⟩ := trodVars_none hV
  obtain ⟨t, rfl, rfl, rfl, ht⟩ := open_string Tryd.underlying9 (hval 0 9 v0 rfl rfl) h0
  obtain ⟨s, rfl, rfl, rfl, hs⟩ := open_string Tryd.underlying9 (hval 1 9 v1 rfl rfl) h1
  have hsz : t.size ≤ 1048576 ∧ s.size ≤ 1048576 := by
    simp [Rows.uptoSmall, Rows.uptoBulkAll, Rows.uptoBulk] at hcond
    omega
  refine (walk t s W hsz.1 hsz.2).mono fun e W' ⟨he, hb⟩ => ⟨_, he, ?_⟩
  exact law_post laidOut (params_ok params_fine) rfl (by kernel_rfl) Tryd.underlying4 hW' hb rfl


/-- the cells of a listed table -/
def tabOf (d : DataW Unit) : Array Value := match d with
  | .agg l => (l.flatMap fun
    | .lit (.int k n) => [Value.int k n]
    | .agg m => m.map fun | .lit (.int k n) => Value.int k n | _ => .bool false
    | _ => [.bool false]).toArray
  | _ => #[]
/-- a world for the witness: the settled one, the listed tables holding what their initialisers lay -/
noncomputable def laidWorld (os : Os) : World :=
  { World.holding Tryd.prog os ⟨#[], #[], []⟩ with heap := ((((World.holding Tryd.prog os ⟨#[], #[], []⟩).heap.modify 2 fun
      | .cells _ t frozen => .cells (tabOf Rows.laid_math_bits_deBruijn32tab) t frozen
      | o => o).modify 3 fun
      | .cells _ t frozen => .cells (tabOf Rows.laid_math_bits_deBruijn64tab) t frozen
      | o => o).modify 1 fun
      | .cells _ t frozen => .cells (tabOf Rows.laid_internal_strconv_uint64pow10) t frozen
      | o => o) }
def wargs : Array Value := #[.string .empty, .string .empty]
theorem laid_met (os : Os) : laidMet Tryd.prog Rows.splitMatchesUptoRow.laid ((laidWorld os).forCall (fun _ _ => 0) ⟨#[], wargs, []⟩).memory :=
  laidMet_of_run' 8 (by kernel_rfl) (by kernel_rfl)
theorem reads (os : Os) {H : Type} (enc : TypeId × Value → H) : ∃ places, DataW.whole enc Tryd.prog ((laidWorld os).forCall (fun _ _ => 0) ⟨#[], wargs, []⟩).memory Tryd.f4.params.toList Rows.splitMatchesSpec.vars false wargs.toList 8 = some ([.lit (.string []), .lit (.string [])], [], places) :=
  ⟨[], by kernel_rfl⟩

set_option maxRecDepth 100000 in
theorem lifted (os : Os) (started : os.Started) (H : Type) (enc : TypeId × Value → H) (F : Stop.Interp) :
    ReturnsInHanded {} Tryd.checked os 4 .any ((Rows.OpenSpec.upto Rows.splitMatchesSpec).preRow enc Tryd.prog Tryd.f4 Rows.splitMatchesUptoRow.domain false Rows.splitMatchesUptoRow.laid) (((Rows.OpenSpec.upto Rows.splitMatchesSpec).at F).post enc Tryd.prog Tryd.f4 false true false false) := by
  obtain ⟨places, hx⟩ := reads os enc
  refine returnsInHanded_of_row (C := Tryd.checked) (s := Rows.OpenSpec.upto Rows.splitMatchesSpec) own started (by kernel_rfl) Tryd.func4
    (witness_row_at (enc := enc) (C := Tryd.checked) false (laidWorld os) wargs rfl (by kernel_rfl) (by kernel_rfl) (by kernel_rfl)
      (OpenSpec.preRow_of_cond 8 hx (by kernel_rfl) (fun k hk => by cases hk; kernel_rfl) (by kernel_rfl) (laid_met os))) ?_
  intro W base args ds gs before hval hW _ hcond _ hL hsh _
  exact contract H enc W base args ds gs before hval hW hL hsh (hcond _ rfl)

theorem said : Rows.SplitMatchesUptoSaid :=
  OpenClaim.holds_of_cond 4 Tryd.f4 rfl rfl rfl rfl rfl rfl rfl ⟨rfl, rfl, rfl, rfl, rfl⟩ rfl rfl rfl rfl rfl (by kernel_rfl) Tryd.func4 (by kernel_rfl)
    (of_decide_eq_true (by kernel_rfl)) (by unfold Func.isWrapper; first | (rw [if_pos (by decide +kernel)]; kernel_rfl) | (rw [if_neg (by decide +kernel)]; exact ⟨rfl, rfl⟩))
    (fun os started H enc _ F => by rw [OpenClaim.pre_eq_preRow]; exact lifted os started H enc F)

theorem no_stand (l : List TypeId) (h : (l.all fun t => !(Tryd.pinned.checked.prog.wantsStandIn t)) = true) (t : TypeId) (ht : t ∈ l) : Tryd.pinned.checked.prog.wantsStandIn t = false := by
  simpa using List.all_eq_true.1 h t ht
theorem plain (f : FuncId) (fn : Func) (hf : Tryd.pinned.checked.prog.funcNamed "periwinkle/periwinklelaw2.SplitMatches" = some f) (hfn : Tryd.pinned.checked.prog.funcs[f]? = some fn) :
    false = Tryd.pinned.checked.prog.looks [] ∧ ∀ (j : Nat) t, fn.params[j]? = some t → Tryd.pinned.checked.prog.wantsStandIn t = false := by
  obtain rfl : f = 4 := Option.some.inj ((show Tryd.prog.funcNamed "periwinkle/periwinklelaw2.SplitMatches" = some 4 by kernel_rfl).symm.trans hf) |>.symm
  obtain rfl : fn = Tryd.f4 := (Option.some.inj (Tryd.func4.symm.trans hfn)).symm
  refine ⟨by kernel_rfl, fun j t ht => ?_⟩
  rw [Tryd.params4] at ht
  exact no_stand [9, 9] (by kernel_rfl) t (by simpa using Array.mem_of_getElem? ht)

theorem card : Rows.SplitMatchesUptoCardSaid :=
  Claim7.holds_tied_plain_at .later [] _ _ _ _ said (fun _ h => by cases h) (by kernel_rfl) (fun _ h => by cases h) splitMatchesUpto_row_tie rfl ⟨rfl, rfl⟩ (by kernel_rfl) rfl plain (by kernel_rfl)

end Go.Proofs.YtbgmjmooifjhjaaDoor.SplitMain
