/- The laws of times: the listed variables' world (with unicode.CaseRanges' rows), and how times come in. -/
import Derived.Test.YtlhaidibcocooaaGreatDoorClose
import Derived.Test.YtlhaidibcocooaaGreatDoorCards
import Derived.Test.YtlhaidibcocooaaGreatDoorTie
import Derived.Test.YtlhaidibcocooaaGreatDoorShelf
import Derived.Test.YtlhaidibcocooaaGreatDoorTimesK
import Derived.OpenShut
import Derived.DataShut
import Derived.PinnedBridge
import Derived.Lib.LaidCaseMet
namespace Go.Proofs.YtlhaidibcocooaaGreatDoor
open Go.RowKit Go.ChangeShapes Go.WideShapes Go.ChangeAt Go.Joins Go.Shelf

theorem perm4 {α : Type} (a b c d : List α) : (c ++ (d ++ (a ++ b))).Perm (a ++ (b ++ (c ++ d))) := by
  rw [← List.append_assoc, ← List.append_assoc a b]
  exact List.perm_append_comm
theorem u64_nat {n : Int} (h : (Lit.int .u64 n).wf = true) : ∃ m : Nat, n = (m : Int) ∧ m < 18446744073709551616 := by
  have h2 : 0 ≤ n ∧ n < 18446744073709551616 := by
    have e1 : IntKind.u64.min = 0 := by decide
    have e2 : IntKind.u64.max = 18446744073709551615 := by decide
    simp [Lit.wf] at h
    omega
  exact ⟨n.toNat, by omega, by omega⟩
theorem laidVars_swap {P : Program} {w : World} (x y : String × DataW Unit) : ∀ (l : List (String × DataW Unit)) (ps : List MemPlace), DataW.LaidVars P w (l ++ [x, y]) ps → ∃ qs, DataW.LaidVars P w (l ++ [y, x]) qs ∧ qs.Perm ps
  | [], ps, h => by
    obtain ⟨n1, d1⟩ := x
    obtain ⟨n2, d2⟩ := y
    obtain ⟨g1, t1, cs1, f1, p1, q1, a1, a2, a3, a4, h1, rfl⟩ := h
    obtain ⟨g2, t2, cs2, f2, p2, q2, b1, b2, b3, b4, h2, rfl⟩ := h1
    have hq : q2 = [] := h2
    subst hq
    refine ⟨_, ⟨g2, t2, cs2, f2, p2, _, b1, b2, b3, b4, ⟨g1, t1, cs1, f1, p1, [], a1, a2, a3, a4, rfl, rfl⟩, rfl⟩, ?_⟩
    simp only [List.append_nil, List.append_assoc]
    exact perm4 _ _ _ _
  | (n, d) :: l, ps, h => by
    obtain ⟨g, t, cs, fuel, p, q, h1, h2, h3, h4, h5, rfl⟩ := h
    obtain ⟨qs, hq, hp⟩ := laidVars_swap x y l q h5
    exact ⟨_, ⟨g, t, cs, fuel, p, qs, h1, h2, h3, h4, hq, rfl⟩, hp.append_left _⟩
theorem laidMet_swap {P : Program} {w : World} {x y : String × DataW Unit} {l : List (String × DataW Unit)} (h : laidMet P (l ++ [x, y]) w) : laidMet P (l ++ [y, x]) w := by
  obtain ⟨ps, hl, hn, hr⟩ := h
  obtain ⟨qs, hq, hp⟩ := laidVars_swap x y l ps hl
  exact ⟨qs, hq, hp.nodup_iff.2 hn, fun b off hm => hr b off (hp.mem_iff.1 hm)⟩
theorem mx_at {w : World} (h : w.ShapedOpen Tryz.prog) : MaxLenAt w := Tryz.laysM145.s1_3 w h

theorem cellsTimes : Tryz.prog.cellsOf 24 = 7 := by kernel_rfl
set_option maxRecDepth 100000 in
/-- times that came in -/
theorem open_times {H : Type} {enc : TypeId × Value → H} {W : World} {r : Reach} {b0 : Nat} {v : Value} {d : DataW H} {p : List MemPlace}
    (hval : Value.okWide Tryz.prog W r b0 24 v) (h : DataW.Trod enc Tryz.prog W 0 (fun _ => true) true 24 v d p) :
    ∃ (a0 a1 a2 a3 a4 : Nat) (b5 b6 : Bool), v = .agg #[.int .u64 (a0 : Int), .int .u64 (a1 : Int), .int .u64 (a2 : Int), .int .u64 (a3 : Int), .int .u64 (a4 : Int), .bool b5, .bool b6] ∧ a0 < 18446744073709551616 ∧ a1 < 18446744073709551616 ∧ a2 < 18446744073709551616 ∧ a3 < 18446744073709551616 ∧ a4 < 18446744073709551616 := by
  obtain ⟨cs, rfl, hsz⟩ := okWide_struct Tryz.underlying24 hval
  obtain ⟨l⟩ := cs
  rw [cellsTimes] at hsz
  match l, hsz with
  | [c0, c1, c2, c3, c4, c5, c6], _ =>
    obtain ⟨fuel, hf⟩ := h
    obtain ⟨xs, n, _, hx, _, hlen, hg⟩ := DataW.trod_struct Tryz.underlying24 hf
    match xs, hlen with
    | [y0, y1, y2, y3, y4, y5, y6], _ =>
      have k1 : Tryz.prog.cellsOf 22 = 1 := by kernel_rfl
      have k3 : Tryz.prog.cellsOf 4 = 1 := by kernel_rfl
      have g0 : DataW.trod enc Tryz.prog W 0 (fun _ => true) true n 22 [c0] = some y0 := by simpa [Value.cells, k1] using hg 0 _ rfl
      have g1 : DataW.trod enc Tryz.prog W 0 (fun _ => true) true n 22 [c1] = some y1 := by simpa [Value.cells, k1] using hg 1 _ rfl
      have g2 : DataW.trod enc Tryz.prog W 0 (fun _ => true) true n 22 [c2] = some y2 := by simpa [Value.cells, k1] using hg 2 _ rfl
      have g3 : DataW.trod enc Tryz.prog W 0 (fun _ => true) true n 22 [c3] = some y3 := by simpa [Value.cells, k1] using hg 3 _ rfl
      have g4 : DataW.trod enc Tryz.prog W 0 (fun _ => true) true n 22 [c4] = some y4 := by simpa [Value.cells, k1] using hg 4 _ rfl
      have g5 : DataW.trod enc Tryz.prog W 0 (fun _ => true) true n 4 [c5] = some y5 := by simpa [Value.cells, k1, k3] using hg 5 _ rfl
      have g6 : DataW.trod enc Tryz.prog W 0 (fun _ => true) true n 4 [c6] = some y6 := by simpa [Value.cells, k1, k3] using hg 6 _ rfl
      obtain ⟨t0, e0, _, r0⟩ := DataW.trod_int Tryz.underlying22 g0
      obtain ⟨t1, e1, _, r1⟩ := DataW.trod_int Tryz.underlying22 g1
      obtain ⟨t2, e2, _, r2⟩ := DataW.trod_int Tryz.underlying22 g2
      obtain ⟨t3, e3, _, r3⟩ := DataW.trod_int Tryz.underlying22 g3
      obtain ⟨t4, e4, _, r4⟩ := DataW.trod_int Tryz.underlying22 g4
      obtain ⟨t5, e5, _⟩ := DataW.trod_bool Tryz.underlying4 g5
      obtain ⟨t6, e6, _⟩ := DataW.trod_bool Tryz.underlying4 g6
      injection e0 with e0
      injection e1 with e1
      injection e2 with e2
      injection e3 with e3
      injection e4 with e4
      injection e5 with e5
      injection e6 with e6
      subst e0 e1 e2 e3 e4 e5 e6
      obtain ⟨m0, hm0, hl0⟩ := u64_nat r0
      subst hm0
      obtain ⟨m1, hm1, hl1⟩ := u64_nat r1
      subst hm1
      obtain ⟨m2, hm2, hl2⟩ := u64_nat r2
      subst hm2
      obtain ⟨m3, hm3, hl3⟩ := u64_nat r3
      subst hm3
      obtain ⟨m4, hm4, hl4⟩ := u64_nat r4
      subst hm4
      exact ⟨m0, m1, m2, m3, m4, t5, t6, rfl, hl0, hl1, hl2, hl3, hl4⟩

/-- where the rows of unicode.CaseRanges lie -/
def caseRen : Ren := ⟨Tryz.lays274_ren.f, Tryz.lays274_ren.t, fun | 13 => 7 | n => n⟩
/-- the text of a listed error -/
def textOf (d : DataW Unit) : ByteArray := match d with
  | .iface _ (.ptr (.agg [.lit (.string l)])) => ⟨l.toArray⟩
  | _ => ⟨#[]⟩
/-- the cells of a listed table -/
def tabOf (d : DataW Unit) : Array Value := match d with
  | .agg l => (l.flatMap fun
    | .lit (.int k n) => [Value.int k n]
    | .agg m => m.map fun | .lit (.int k n) => Value.int k n | _ => .bool false
    | _ => [.bool false]).toArray
  | _ => #[]
/-- a world for the witness: the settled one, the listed variables holding what their initialisers lay -/
noncomputable def laidWorld (os : Os) : World :=
  { World.holding Tryz.prog os ⟨#[.cells #[.string (textOf Rows.laid_strconv_ErrRange)] 222, .cells #[.string (textOf Rows.laid_strconv_ErrSyntax)] 222, .cells Lib.caseCells5 (caseRen.t 208)], #[], []⟩ with heap := (((((((((World.holding Tryz.prog os ⟨#[.cells #[.string (textOf Rows.laid_strconv_ErrRange)] 222, .cells #[.string (textOf Rows.laid_strconv_ErrSyntax)] 222, .cells Lib.caseCells5 (caseRen.t 208)], #[], []⟩).heap.modify 9 fun
      | .cells _ t frozen => .cells (tabOf Rows.laid_math_bits_deBruijn32tab) t frozen
      | o => o).modify 0 fun
      | .cells _ t frozen => .cells (tabOf Rows.laid_math_bits_deBruijn64tab) t frozen
      | o => o).modify 6 fun
      | .cells _ t frozen => .cells (tabOf Rows.laid_internal_strconv_uint64pow10) t frozen
      | o => o).modify 3 fun
      | .cells _ t frozen => .cells (tabOf Rows.laid_unicode_utf8_acceptRanges) t frozen
      | o => o).modify 2 fun
      | .cells _ t frozen => .cells (tabOf Rows.laid_unicode_utf8_first) t frozen
      | o => o).modify 5 fun
      | .cells _ t frozen => .cells #[.iface 220 (.pointer (some ⟨(World.settled Tryz.prog os).heap.size + 0, 0, none⟩))] t frozen
      | o => o).modify 4 fun
      | .cells _ t frozen => .cells #[.iface 220 (.pointer (some ⟨(World.settled Tryz.prog os).heap.size + 1, 0, none⟩))] t frozen
      | o => o).modify 7 fun
      | .cells _ t frozen => .cells #[.slice (some ⟨(World.settled Tryz.prog os).heap.size + 2, 0, none⟩) 336 336] t frozen
      | o => o) }
/-- the listed variables but unicode.CaseRanges -/
def small : List (String × DataW Unit) := [("math/bits.deBruijn32tab", Rows.laid_math_bits_deBruijn32tab), ("math/bits.deBruijn64tab", Rows.laid_math_bits_deBruijn64tab), ("internal/strconv.uint64pow10", Rows.laid_internal_strconv_uint64pow10), ("unicode/utf8.acceptRanges", Rows.laid_unicode_utf8_acceptRanges), ("strconv.ErrRange", Rows.laid_strconv_ErrRange), ("strconv.ErrSyntax", Rows.laid_strconv_ErrSyntax)]
theorem laid_all (os : Os) (args : Array Value) : laidMet Tryz.prog (small ++ [("unicode.CaseRanges", Rows.laid_unicode_CaseRanges), ("unicode/utf8.first", Rows.laid_unicode_utf8_first)]) ((laidWorld os).forCall (fun _ _ => 0) ⟨#[], args, []⟩).memory := by
  refine laidMet_swap ?_
  rw [show Rows.laid_unicode_CaseRanges = Lib.caseData from Pinned.caseRanges_eq, show small ++ [("unicode/utf8.first", Rows.laid_unicode_utf8_first), ("unicode.CaseRanges", Lib.caseData)] = (small ++ [("unicode/utf8.first", Rows.laid_unicode_utf8_first)]) ++ [("unicode.CaseRanges", Lib.caseData)] from rfl]
  exact laidMet_with_case (ρ := caseRen) { Tryz.lays274 with } (by kernel_rfl) ⟨by kernel_rfl, by kernel_rfl, by kernel_rfl, by kernel_rfl, by kernel_rfl, by kernel_rfl⟩
    10 (by kernel_rfl) (by kernel_rfl) (by kernel_rfl) ((World.settled Tryz.prog default).heap.size + 2) (caseRen.t 208) (of_decide_eq_true (by kernel_rfl)) (by kernel_rfl) (by kernel_rfl) (by kernel_rfl)

end Go.Proofs.YtlhaidibcocooaaGreatDoor
