/- RemembersLast: for every history, line and number, the program's Remember gives what the reference's Remember gives. No condition. -/
import Derived.Test.YtokmiommhfbkeaaDoorRemRef
import Derived.Test.YtokmiommhfbkeaaDoorClose
import Derived.Test.YtokmiommhfbkeaaDoorCards
import Derived.Test.YtokmiommhfbkeaaDoorTie
import Derived.SliceStrings
namespace Go.Proofs.YtokmiommhfbkeaaDoor.RemLaw
open Go.RowKit Go.ChangeShapes Go.WideShapes Go.ChangeAt
open Go.ChangeMaps (open_string shut_string)

theorem cellsStr : Tryd.prog.cellsOf 9 = 1 := by kernel_rfl

set_option maxRecDepth 100000 in
/-- a slice of texts that came in -/
theorem open_texts {H : Type} {enc : TypeId × Value → H} {W : World} {r : Reach} {b0 : Nat} {v : Value} {d : DataW H} {p : List MemPlace}
    (hval : Value.okWide Tryd.prog W r b0 27 v) (h : DataW.Trod enc Tryd.prog W 0 (fun _ => true) true 27 v d p) :
    ∃ l : List ByteArray, SL W v l ∧ l.length ≤ 9223372036854775807 ∧ ∀ s ∈ l, s.size ≤ maxLen := by
  obtain ⟨a0, len, cap, rfl⟩ := okWide_slice Tryd.underlying27 hval
  obtain ⟨fuel, hf⟩ := h
  rcases open_strings Tryd.underlying27 Tryd.underlying9 cellsStr hf with ⟨hcs, _⟩ | ⟨a, len', cap', ss, hcs, _, hl, hm, hz, _, hcell, hws⟩
  · have hcs' : Value.slice a0 len cap = .slice none 0 0 := by simpa [Value.cells] using hcs
    rw [hcs']
    exact ⟨[], SL.nil _, by simp, by simp⟩
  · have hcs' : Value.slice a0 len cap = .slice (some a) len' cap' := by simpa [Value.cells] using hcs
    rw [hcs']
    simp only [if_true] at hz
    have hlen : (ss.take len').length = len' := by rw [List.length_take]; omega
    refine ⟨ss.take len', ⟨some a, cap', by rw [hlen], by omega, fun hp => ?_⟩, by unfold maxLen at hm; omega, fun s hs => hws s (List.mem_of_mem_take hs)⟩
    rw [hlen] at hp
    have h0 := hcell 0 (by omega)
    obtain ⟨b, off, spot⟩ := a
    have hspot : spot = none := by simpa [Addr.add] using World.cell?_spot h0
    subst hspot
    refine ⟨b, off, rfl, ?_, fun j hj => ?_⟩
    · rw [add_plain] at h0
      rcases Nat.lt_or_ge b W.heap.size with h | h
      · exact h
      · simp [World.cell?, Array.getElem?_eq_none h] at h0
    · rw [hlen] at hj
      have := hcell j (by omega)
      rw [add_plain] at this
      rw [this, List.getElem_take]
      simp [List.getElem?_eq_getElem (show j < ss.length by omega)]

theorem remL_len (l : List ByteArray) (line : ByteArray) (most : Int) : (remL l line most).1.length ≤ 201 := by
  unfold remL
  split
  · simp
  · split
    · simp
    · rename_i h _
      have h2 : l.length ≤ 200 := by
        cases hh : histB l
        · simp [hh] at *
        · simp [histB] at hh; exact hh.1
      split
      · simp
      · split
        · simp
        · simp only [List.length_drop]
          have : (remAll l line).length ≤ l.length + 1 := by unfold remAll; split <;> simp
          omega

set_option maxHeartbeats 1600000 in
theorem walk (l : List ByteArray) (v : Value) (line : ByteArray) (most : Int) (w : World) (hv : SL w v l) (hn : l.length ≤ 9223372036854775807) (hs : ∀ s ∈ l, s.size ≤ maxLen) (hl : line.size ≤ maxLen) :
    Calls Tryd.prog 4 #[v, .string line, .int .i64 most] w fun e w' => e = .returned (.bool true) ∧ Below w.heap.size w w' := by
  have hA := Lib.hid (fun W (hb : Below w.heap.size w W) => rem_any l v line most W (hv.keep hb) hn hs hl)
  have hB := Lib.hid (fun W (hb : Below w.heap.size w W) => rrem_any l v line most W (hv.keep hb) hn hs hl)
  clear hv hs
  go_enter Tryd.func4, Tryd.ntmps4
  go_wp2_with fail
  refine (landed_any w).mono ?_
  rintro e w1 ⟨rfl, hb1⟩
  go_wp2_with fail
  refine (hA.out w1 hb1).mono ?_
  rintro e w2 ⟨v2, rfl, s2, hb2⟩
  have H2 := Lib.hid s2
  have hb12 := hb1.trans (hb2.mono hb1.size)
  clear s2
  go_wp2_with fail
  refine (hB.out w2 hb12).mono ?_
  rintro e w3 ⟨v3, rfl, s3, hb3⟩
  have hb13 := hb12.trans (hb3.mono hb12.size)
  have hE := Lib.hid (equal_any (remL l line most).1 (remL l line most).1 v2 v3 w3 (H2.out.keep hb3) s3 (by have := remL_len l line most; omega))
  clear s3 hA hB
  generalize (remL l line most).2 = n at *
  go_wp2_with fail
  refine hE.out.mono ?_
  rintro e w4 ⟨rfl, hb4⟩
  clear hE H2 hb1 hb12 hb2 hb3
  go_wp2
  go_ret
  exact ⟨ret_bool (by simp), hb13.trans (hb4.mono hb13.size)⟩

theorem params_fine : (Tryd.f4.params.toList.all fun t => Tryd.prog.readableRec t && decide (t < Tryd.prog.types.size)) = true := by kernel_rfl

set_option maxRecDepth 100000 in
theorem contract (H : Type) (enc : TypeId × Value → H) (W : World) (base : Nat) (args : Array Value) (ds gs : List (DataW H)) (before : List MemPlace)
    (hval : ∀ (j : Nat) t v, Tryd.f4.params[j]? = some t → args[j]? = some v → Value.okWide Tryd.prog W .any base t v)
    (hW : DataW.Whole enc Tryd.prog Tryd.f4.params.toList Rows.remembersLastSpec.vars false W args.toList ds gs before) (_hL : laidMetH Tryd.prog Rows.remembersLastRow.laid W) :
    Calls Tryd.prog 4 args W fun e W' => ∃ v, e = .returned v ∧ Rows.remembersLastSpec.post enc Tryd.prog Tryd.f4 false true false false W args v W' := by
  have hW' := hW
  obtain ⟨p, q, hA0, hV, rfl, hfz, hnd⟩ := hW
  have hA : DataW.TrodAll enc Tryd.prog W 0 (fun _ => true) true Tryd.f4.params.toList args.toList ds p := hA0
  rw [Tryd.params4] at hA hval
  obtain ⟨v0, v1, v2, d0, d1, d2, p0, p1, p2, rfl, rfl, rfl, h0, h1, h2⟩ := trodAll_three hA
  obtain ⟨rfl, rfl⟩ := trodVars_none hV
  obtain ⟨l, hl, hn, hs⟩ := open_texts (hval 0 27 v0 rfl rfl) h0
  obtain ⟨line, rfl, rfl, rfl, ht⟩ := open_string Tryd.underlying9 (hval 1 9 v1 rfl rfl) h1
  obtain ⟨most, rfl, rfl, rfl, w2⟩ := open_int Tryd.underlying3 (hval 2 3 v2 rfl rfl) h2
  refine (walk l v0 line most W hl hn hs ht).mono fun e W' ⟨he, hb⟩ => ⟨_, he, ?_⟩
  exact law_post laidOut (params_ok params_fine) rfl (by kernel_rfl) Tryd.underlying4 hW' hb rfl

/-- the cells of a listed table -/
def tabOf (d : DataW Unit) : Array Value := match d with
  | .agg l => (l.map fun | .lit (.int k n) => Value.int k n | _ => .bool false).toArray
  | _ => #[]
/-- a world for the witness: the settled one, the listed tables holding what their initialisers lay -/
noncomputable def laidWorld (os : Os) : World :=
  { World.holding Tryd.prog os ⟨#[], #[], []⟩ with heap := ((((World.holding Tryd.prog os ⟨#[], #[], []⟩).heap.modify 4 fun
      | .cells _ t frozen => .cells (tabOf Rows.laid_math_bits_deBruijn32tab) t frozen
      | o => o).modify 5 fun
      | .cells _ t frozen => .cells (tabOf Rows.laid_math_bits_deBruijn64tab) t frozen
      | o => o).modify 1 fun
      | .cells _ t frozen => .cells (tabOf Rows.laid_internal_strconv_uint64pow10) t frozen
      | o => o) }
def wargs : Array Value := #[.slice none 0 0, .string .empty, .int .i64 0]
theorem laid_met (os : Os) : laidMet Tryd.prog Rows.remembersLastRow.laid ((laidWorld os).forCall (fun _ _ => 0) ⟨#[], wargs, []⟩).memory :=
  laidMet_of_run' 8 (by kernel_rfl) (by kernel_rfl)
theorem reads (os : Os) {H : Type} (enc : TypeId × Value → H) : ∃ places, DataW.whole enc Tryd.prog ((laidWorld os).forCall (fun _ _ => 0) ⟨#[], wargs, []⟩).memory Tryd.f4.params.toList Rows.remembersLastSpec.vars false wargs.toList 8 = some ([.nil, .lit (.string []), .lit (.int .i64 0)], [], places) :=
  ⟨[], by kernel_rfl⟩

set_option maxRecDepth 100000 in
theorem lifted (os : Os) (started : os.Started) (H : Type) (enc : TypeId × Value → H) (F : Stop.Interp) :
    ReturnsInHanded {} Tryd.checked os 4 .any ((OpenSpec.ofChange Rows.remembersLastSpec).preRow enc Tryd.prog Tryd.f4 Rows.remembersLastRow.domain false Rows.remembersLastRow.laid) (((OpenSpec.ofChange Rows.remembersLastSpec).at F).post enc Tryd.prog Tryd.f4 false true false false) := by
  obtain ⟨places, hx⟩ := reads os enc
  refine returnsInHanded_of_row (C := Tryd.checked) (s := OpenSpec.ofChange Rows.remembersLastSpec) own started (by kernel_rfl) Tryd.func4
    (witness_row_at (enc := enc) (C := Tryd.checked) false (laidWorld os) wargs rfl (by kernel_rfl) (by kernel_rfl) (by kernel_rfl)
      (OpenSpec.preRow_of_cond 8 hx (by kernel_rfl) (fun k hk => by cases hk) (by kernel_rfl) (laid_met os))) ?_
  intro W base args ds gs before hval hW _ _ _ hL _ _
  exact contract H enc W base args ds gs before hval hW hL

theorem said : Rows.RemembersLastSaid :=
  OpenClaim.holds_of_cond 4 Tryd.f4 rfl rfl rfl rfl rfl rfl rfl ⟨rfl, rfl, rfl, rfl, rfl⟩ rfl rfl rfl rfl rfl (by kernel_rfl) Tryd.func4 (by kernel_rfl)
    (of_decide_eq_true (by kernel_rfl)) (by unfold Func.isWrapper; first | (rw [if_pos (by decide +kernel)]; kernel_rfl) | (rw [if_neg (by decide +kernel)]; exact ⟨rfl, rfl⟩))
    (fun os started H enc _ F => by rw [OpenClaim.pre_eq_preRow]; exact lifted os started H enc F)

theorem no_stand (l : List TypeId) (h : (l.all fun t => !(Tryd.pinned.checked.prog.wantsStandIn t)) = true) (t : TypeId) (ht : t ∈ l) : Tryd.pinned.checked.prog.wantsStandIn t = false := by
  simpa using List.all_eq_true.1 h t ht
theorem plain (f : FuncId) (fn : Func) (hf : Tryd.pinned.checked.prog.funcNamed "periwinkle/periwinklelaw2.RemembersLast" = some f) (hfn : Tryd.pinned.checked.prog.funcs[f]? = some fn) :
    false = Tryd.pinned.checked.prog.looks [] ∧ ∀ (j : Nat) t, fn.params[j]? = some t → Tryd.pinned.checked.prog.wantsStandIn t = false := by
  obtain rfl : f = 4 := Option.some.inj ((show Tryd.prog.funcNamed "periwinkle/periwinklelaw2.RemembersLast" = some 4 by kernel_rfl).symm.trans hf) |>.symm
  obtain rfl : fn = Tryd.f4 := (Option.some.inj (Tryd.func4.symm.trans hfn)).symm
  refine ⟨by kernel_rfl, fun j t ht => ?_⟩
  rw [Tryd.params4] at ht
  exact no_stand [27, 9, 3] (by kernel_rfl) t (by simpa using Array.mem_of_getElem? ht)

theorem card : Rows.RemembersLastCardSaid :=
  Claim7.holds_tied_plain_at .later [] _ _ _ _ said (fun _ h => by cases h) (by kernel_rfl) (fun _ h => by cases h) remembersLast_row_tie rfl ⟨rfl, rfl⟩ (by kernel_rfl) rfl plain (by kernel_rfl)

end Go.Proofs.YtokmiommhfbkeaaDoor.RemLaw
