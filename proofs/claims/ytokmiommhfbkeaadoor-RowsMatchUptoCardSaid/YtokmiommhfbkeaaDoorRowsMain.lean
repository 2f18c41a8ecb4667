/- RowsMatch, where what it reads is of bulk at most 1048576: for every such text and every width, the program's Rows gives what the reference's Rows gives, and no row is wider than it may be. -/
import Derived.Test.YtokmiommhfbkeaaDoorRowsLaw
import Derived.Test.YtokmiommhfbkeaaDoorClose
import Derived.Test.YtokmiommhfbkeaaDoorCards
import Derived.Test.YtokmiommhfbkeaaDoorTie
namespace Go.Proofs.YtokmiommhfbkeaaDoor.RowsLaw
open Go.RowKit Go.ChangeShapes Go.WideShapes Go.ChangeAt
open Go.ChangeMaps (open_string shut_string)

theorem gDeb : Tryd.prog.globalNamed "math/bits.deBruijn64tab" = some 5 := by kernel_rfl
theorem gDebType : (Tryd.prog.globals[5]?).map (·.type) = some 181 := by kernel_rfl
theorem cellsTab : Tryd.prog.cellsOf 181 = 64 := by kernel_rfl
theorem cellsU8 : Tryd.prog.cellsOf 5 = 1 := by kernel_rfl
/-- the numbers of a listed table -/
def numsOf (d : DataW Unit) : List Int := match d with
  | .agg l => l.map fun | .lit (.int _ n) => n | _ => 0
  | _ => []
theorem tabData_eq : (Rows.laid_math_bits_deBruijn64tab : DataW Unit) = Lib.tabData .u8 (numsOf Rows.laid_math_bits_deBruijn64tab) := by kernel_rfl
theorem deb_of {W : World} (h : laidMetH Tryd.prog Rows.rowsMatchUptoRow.laid W) : Deb W := by
  have h2 : laidMet Tryd.prog (("math/bits.deBruijn32tab", Rows.laid_math_bits_deBruijn32tab) :: ("math/bits.deBruijn64tab", Rows.laid_math_bits_deBruijn64tab) :: Rows.rowsMatchUptoRow.laid.tail.tail) W := h
  have h3 := laid_tail h2
  rw [tabData_eq] at h3
  have h4 := Lib.tabIs_of_head gDeb gDebType Tryd.underlying181 Tryd.underlying5 cellsU8 cellsTab h3
  have h5 := h4.cell gDeb 15 (by decide +kernel)
  rw [show (numsOf Rows.laid_math_bits_deBruijn64tab).getD 15 0 = 4 from by kernel_rfl] at h5
  exact h5

theorem rows_len (s : ByteArray) (wide : Int) : (rowsL s wide).1.length ≤ 4000000000000 ∧ (rowsL s wide).2.1.length ≤ 4000000000000 := by
  unfold rowsL
  split
  · rename_i hE
    have hh : (s.size ≤ 65536 ∧ (linesL s).length ≤ 4096) ∧ 2 ≤ wide := by
      unfold rowsE at hE
      split at hE
      · cases hE
      · rename_i hl
        split at hE
        · rename_i h; exact ⟨by simpa [largeB] using hl, by simp [withinB] at h; exact h.1⟩
        · cases hE
    have hkm : (linesL s).length * (8 * s.size + 1) ≤ 4096 * (8 * 65536 + 1) := Nat.mul_le_mul hh.1.2 (by omega)
    have h := Fits.rowsK hh.2 (lines_size s) _ (Nat.le_refl _)
    exact ⟨by have := h.1; omega, by have := h.2.1; omega⟩
  · exact ⟨Nat.zero_le _, Nat.zero_le _⟩

set_option maxHeartbeats 1600000 in
theorem walk (s : ByteArray) (wide : Int) (w : World) (hd : Deb w) (hx : MX w) (hs : s.size ≤ 1048576) :
    Calls Tryd.prog 6 #[.string s, .int .i64 wide] w fun e w' => e = .returned (.bool true) ∧ Below w.heap.size w w' := by
  have hV := Lib.hid (fun W (hb : Below w.heap.size w W) => rows_any s wide W (hx.keep hb) (hd.keep hb) (by omega))
  have hR := Lib.hid (fun W (hb : Below w.heap.size w W) => rrows_any s wide W (hx.keep hb) (by omega))
  have hN := narrow s wide
  obtain ⟨hL1, hL2⟩ := rows_len s wide
  clear hd hx
  generalize rowsL s wide = x at *
  generalize rowsE s wide = n at *
  go_enter Tryd.func6, Tryd.ntmps6
  go_wp2_with fail
  refine (landed_any _).mono ?_
  rintro e w1 ⟨rfl, hb1⟩
  obtain ⟨c1, l1⟩ := box_keep (box_new w #[.int .i64 wide] 3).1 (by simp) hb1
  have hbw1 : Below w.heap.size w w1 := ((Below.refl _ w).alloc (Nat.le_refl _) _).trans (hb1.mono (by simp))
  clear hb1
  go_wp2_with fail
  refine (hV.out w1 hbw1).mono ?_
  rintro e w2 ⟨hb2, v1, v2, rfl, s1, i1⟩
  obtain ⟨c2, l2⟩ := box_keep c1 l1 hb2
  have hbw2 : Below w.heap.size w w2 := hbw1.trans (hb2.mono hbw1.size)
  clear c1 hb2
  go_wp2_with fail
  refine (hR.out w2 hbw2).mono ?_
  rintro e w3 ⟨hb3, v3, v4, rfl, s3, i3⟩
  obtain ⟨c3, l3⟩ := box_keep c2 l2 hb3
  have hbw3 : Below w.heap.size w w3 := hbw2.trans (hb3.mono hbw2.size)
  have E1 := Lib.hid (fun W (hb : Below w3.heap.size w3 W) => equal_any x.1 x.1 v1 v3 W ((s1.keep hb3).keep hb) (s3.keep hb) (by omega))
  have E2 := Lib.hid (fun W (hb : Below w3.heap.size w3 W) => equalInt_any x.2.1 x.2.1 v2 v4 W ((i1.keep hb3).keep hb) (i3.keep hb) (by omega))
  have E3 := Lib.hid (fun W (hb : Below w3.heap.size w3 W) => containsFuncC_any 20 (.pointer (some ⟨w.heap.size, 0, none⟩)) (enters_of Tryd.func20 (by kernel_rfl) rfl) (fun p => decide (wide < (p.size : Int))) x.1 v1 W ((s1.keep hb3).keep hb) (by omega)
    (fun p _ W' hb' => wider_any p w.heap.size wide W' (((hb.trans (hb'.mono hb.size)).cell (p := ⟨w.heap.size, 0, none⟩) l3).trans (c3 0))))
  have hB3 := Lib.hid hbw3
  clear s1 s3 i1 i3 hbw1 hbw2 hbw3 hb3 c2 c3 hV hR
  simp only [decide_true] at E1 E2
  rw [hN] at E3
  go_wp2_with fail
  refine (E1.out w3 (Below.refl _ _)).mono ?_
  rintro e w4 ⟨rfl, hb4⟩
  go_wp2_with fail
  refine (E2.out w4 hb4).mono ?_
  rintro e w5 ⟨rfl, hb5⟩
  have hb35 := hb4.trans (hb5.mono hb4.size)
  clear hb4 hb5
  go_wp2_with fail
  refine (E3.out w5 hb35).mono ?_
  rintro e w6 ⟨rfl, hb6⟩
  go_wp2
  go_ret
  exact ⟨ret_bool (by simp), hB3.out.trans ((hb35.trans (hb6.mono hb35.size)).mono hB3.out.size)⟩


theorem params_fine : (Tryd.f6.params.toList.all fun t => Tryd.prog.readableRec t && decide (t < Tryd.prog.types.size)) = true := by kernel_rfl

set_option maxRecDepth 100000 in
theorem contract (H : Type) (enc : TypeId × Value → H) (W : World) (base : Nat) (args : Array Value) (ds gs : List (DataW H)) (before : List MemPlace)
    (hval : ∀ (j : Nat) t v, Tryd.f6.params[j]? = some t → args[j]? = some v → Value.okWide Tryd.prog W .any base t v)
    (hW : DataW.Whole enc Tryd.prog Tryd.f6.params.toList Rows.rowsMatchSpec.vars false W args.toList ds gs before) (hL : laidMetH Tryd.prog Rows.rowsMatchUptoRow.laid W) (hsh : W.ShapedOpen Tryd.prog) (hcond : Rows.uptoSmall H (ds ++ gs) = true) :
    Calls Tryd.prog 6 args W fun e W' => ∃ v, e = .returned v ∧ Rows.rowsMatchSpec.post enc Tryd.prog Tryd.f6 false true false false W args v W' := by
  have hW' := hW
  obtain ⟨p, q, hA0, hV, rfl, hfz, hnd⟩ := hW
  have hA : DataW.TrodAll enc Tryd.prog W 0 (fun _ => true) true Tryd.f6.params.toList args.toList ds p := hA0
  rw [Tryd.params6] at hA hval
  obtain ⟨v0, v1, d0, d1, p0, p1, rfl, rfl, rfl, h0, h1⟩ := trodAll_two hA
  obtain ⟨rfl, rfl⟩ := trodVars_none hV
  obtain ⟨s, rfl, rfl, rfl, hs⟩ := open_string Tryd.underlying9 (hval 0 9 v0 rfl rfl) h0
  obtain ⟨wide, rfl, rfl, rfl, w2⟩ := open_int Tryd.underlying3 (hval 1 3 v1 rfl rfl) h1
  have hsz : s.size ≤ 1048576 := by
    simp [Rows.uptoSmall, Rows.uptoBulkAll, Rows.uptoBulk] at hcond
    omega
  refine (walk s wide W (deb_of hL) (mx_of hsh) hsz).mono fun e W' ⟨he, hb⟩ => ⟨_, he, ?_⟩
  exact law_post laidOut (params_ok params_fine) rfl (by kernel_rfl) Tryd.underlying4 hW' hb rfl

/-- the cells of a listed table -/
def tabOf (d : DataW Unit) : Array Value := match d with
  | .agg l => (l.flatMap fun
    | .lit (.int k n) => [Value.int k n]
    | .agg m => m.map fun | .lit (.int k n) => Value.int k n | _ => .bool false
    | _ => [.bool false]).toArray
  | _ => #[]
/-- a world for the witness: the settled one, the listed tables holding what their initialisers lay -/
noncomputable def laidWorld (os : Os) : World :=
  { World.holding Tryd.prog os ⟨#[], #[], []⟩ with heap := ((((((World.holding Tryd.prog os ⟨#[], #[], []⟩).heap.modify 4 fun
      | .cells _ t frozen => .cells (tabOf Rows.laid_math_bits_deBruijn32tab) t frozen
      | o => o).modify 5 fun
      | .cells _ t frozen => .cells (tabOf Rows.laid_math_bits_deBruijn64tab) t frozen
      | o => o).modify 1 fun
      | .cells _ t frozen => .cells (tabOf Rows.laid_internal_strconv_uint64pow10) t frozen
      | o => o).modify 3 fun
      | .cells _ t frozen => .cells (tabOf Rows.laid_unicode_utf8_acceptRanges) t frozen
      | o => o).modify 2 fun
      | .cells _ t frozen => .cells (tabOf Rows.laid_unicode_utf8_first) t frozen
      | o => o) }
def wargs : Array Value := #[.string .empty, .int .i64 0]
theorem laid_met (os : Os) : laidMet Tryd.prog Rows.rowsMatchUptoRow.laid ((laidWorld os).forCall (fun _ _ => 0) ⟨#[], wargs, []⟩).memory :=
  laidMet_of_run' 8 (by kernel_rfl) (by kernel_rfl)
theorem reads (os : Os) {H : Type} (enc : TypeId × Value → H) : ∃ places, DataW.whole enc Tryd.prog ((laidWorld os).forCall (fun _ _ => 0) ⟨#[], wargs, []⟩).memory Tryd.f6.params.toList Rows.rowsMatchSpec.vars false wargs.toList 8 = some ([.lit (.string []), .lit (.int .i64 0)], [], places) :=
  ⟨[], by kernel_rfl⟩

set_option maxRecDepth 100000 in
theorem lifted (os : Os) (started : os.Started) (H : Type) (enc : TypeId × Value → H) (F : Stop.Interp) :
    ReturnsInHanded {} Tryd.checked os 6 .any ((Rows.OpenSpec.upto Rows.rowsMatchSpec).preRow enc Tryd.prog Tryd.f6 Rows.rowsMatchUptoRow.domain false Rows.rowsMatchUptoRow.laid) (((Rows.OpenSpec.upto Rows.rowsMatchSpec).at F).post enc Tryd.prog Tryd.f6 false true false false) := by
  obtain ⟨places, hx⟩ := reads os enc
  refine returnsInHanded_of_row (C := Tryd.checked) (s := Rows.OpenSpec.upto Rows.rowsMatchSpec) own started (by kernel_rfl) Tryd.func6
    (witness_row_at (enc := enc) (C := Tryd.checked) false (laidWorld os) wargs rfl (by kernel_rfl) (by kernel_rfl) (by kernel_rfl)
      (OpenSpec.preRow_of_cond 8 hx (by kernel_rfl) (fun k hk => by cases hk; kernel_rfl) (by kernel_rfl) (laid_met os))) ?_
  intro W base args ds gs before hval hW _ hcond _ hL hsh _
  exact contract H enc W base args ds gs before hval hW hL hsh (hcond _ rfl)

theorem said : Rows.RowsMatchUptoSaid :=
  OpenClaim.holds_of_cond 6 Tryd.f6 rfl rfl rfl rfl rfl rfl rfl ⟨rfl, rfl, rfl, rfl, rfl⟩ rfl rfl rfl rfl rfl (by kernel_rfl) Tryd.func6 (by kernel_rfl)
    (of_decide_eq_true (by kernel_rfl)) (by unfold Func.isWrapper; first | (rw [if_pos (by decide +kernel)]; kernel_rfl) | (rw [if_neg (by decide +kernel)]; exact ⟨rfl, rfl⟩))
    (fun os started H enc _ F => by rw [OpenClaim.pre_eq_preRow]; exact lifted os started H enc F)

theorem no_stand (l : List TypeId) (h : (l.all fun t => !(Tryd.pinned.checked.prog.wantsStandIn t)) = true) (t : TypeId) (ht : t ∈ l) : Tryd.pinned.checked.prog.wantsStandIn t = false := by
  simpa using List.all_eq_true.1 h t ht
theorem plain (f : FuncId) (fn : Func) (hf : Tryd.pinned.checked.prog.funcNamed "periwinkle/periwinklelaw2.RowsMatch" = some f) (hfn : Tryd.pinned.checked.prog.funcs[f]? = some fn) :
    false = Tryd.pinned.checked.prog.looks [] ∧ ∀ (j : Nat) t, fn.params[j]? = some t → Tryd.pinned.checked.prog.wantsStandIn t = false := by
  obtain rfl : f = 6 := Option.some.inj ((show Tryd.prog.funcNamed "periwinkle/periwinklelaw2.RowsMatch" = some 6 by kernel_rfl).symm.trans hf) |>.symm
  obtain rfl : fn = Tryd.f6 := (Option.some.inj (Tryd.func6.symm.trans hfn)).symm
  refine ⟨by kernel_rfl, fun j t ht => ?_⟩
  rw [Tryd.params6] at ht
  exact no_stand [9, 3] (by kernel_rfl) t (by simpa using Array.mem_of_getElem? ht)

theorem card : Rows.RowsMatchUptoCardSaid :=
  Claim7.holds_tied_plain_at .later [] _ _ _ _ said (fun _ h => by cases h) (by kernel_rfl) (fun _ h => by cases h) rowsMatchUpto_row_tie rfl ⟨rfl, rfl⟩ (by kernel_rfl) rfl plain (by kernel_rfl)

end Go.Proofs.YtokmiommhfbkeaaDoor.RowsLaw
