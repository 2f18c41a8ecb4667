/- FiresAreNexts: the law's walk. -/
import Derived.Test.YtlhaidibcocooaaGreatDoorStPlain
import Derived.Test.YtlhaidibcocooaaGreatDoorStWalk
import Derived.Test.YtlhaidibcocooaaGreatDoorNextF
import Derived.Deep.AppendLies
import Derived.LoopN
import Derived.Lib.AppendZeros
import Derived.Laws.AppendOwnNone
import Derived.Test.YtlhaidibcocooaaGreatDoorNextW
namespace Go.Proofs.YtlhaidibcocooaaGreatDoor
open Go.RowKit

def prC (l : List (Int × Int)) : List Value := l.flatMap fun b => [.int .i64 b.1, .int .i64 b.2]
theorem prC_len (l : List (Int × Int)) : (prC l).length = l.length * 2 := by
  induction l with
  | nil => rfl
  | cons b r ih => simp only [prC, List.flatMap_cons, List.length_append, List.length_cons, List.length_nil] at *; omega
theorem prC_at (l : List (Int × Int)) (j : Nat) (h : j < l.length) : (prC l)[j * 2]? = some (.int .i64 l[j].1) ∧ (prC l)[j * 2 + 1]? = some (.int .i64 l[j].2) := by
  induction l generalizing j with
  | nil => simp at h
  | cons b r ih =>
    cases j with
    | zero => exact ⟨rfl, rfl⟩
    | succ j =>
      have := ih j (by simpa using h)
      rw [show (j + 1) * 2 = j * 2 + 2 by omega, show j * 2 + 2 + 1 = (j * 2 + 1) + 2 by omega]
      exact this
theorem prC_one (l : List (Int × Int)) : ∀ u ∈ prC l, u.oneCell' = true := fun u hu => by
  simp only [prC, List.mem_flatMap, List.mem_cons, List.not_mem_nil, or_false] at hu
  obtain ⟨b, _, rfl | rfl⟩ := hu <;> rfl
/-- the pairs, where they lie -/
def PrC (b off : Nat) (L : List (Int × Int)) (w : World) : Prop := b < w.heap.size ∧ ∀ j (h : j < L.length), w.cell? ⟨b, off + j * 2, none⟩ = some (.int .i64 L[j].1) ∧ w.cell? ⟨b, off + j * 2 + 1, none⟩ = some (.int .i64 L[j].2)
theorem PrC.keep {b off : Nat} {L : List (Int × Int)} {w w' : World} (h : PrC b off L w) (hb : Below w.heap.size w w') : PrC b off L w' :=
  ⟨Nat.lt_of_lt_of_le h.1 hb.size, fun j hj => ⟨(hb.cell (p := ⟨b, off + j * 2, none⟩) h.1).trans (h.2 j hj).1, (hb.cell (p := ⟨b, off + j * 2 + 1, none⟩) h.1).trans (h.2 j hj).2⟩⟩
theorem PrC.set_ {b off : Nat} {L : List (Int × Int)} {w : World} (h : PrC b off L w) {g : Nat} (hne : b ≠ g) (i : Nat) (u : Value) : PrC b off L (w.setCell ⟨g, i, none⟩ u) :=
  ⟨by simpa [World.setCell] using h.1, fun j hj => ⟨by rw [World.cell?_setCell_other _ _ _ _ (by intro e; injection e; omega)]; exact (h.2 j hj).1, by rw [World.cell?_setCell_other _ _ _ _ (by intro e; injection e; omega)]; exact (h.2 j hj).2⟩⟩
/-- v is a slice of these pairs -/
def KP (w : World) (v : Value) (L : List (Int × Int)) : Prop :=
  ∃ A c, v = .slice A L.length c ∧ L.length ≤ c ∧ (A = none → c = 0) ∧ (0 < L.length → ∃ b off, A = some ⟨b, off, none⟩ ∧ PrC b off L w)
theorem KP.keep {w w' : World} {v : Value} {l : List (Int × Int)} (h : KP w v l) (hb : Below w.heap.size w w') : KP w' v l := by
  obtain ⟨A, c, rfl, hc, hA, h⟩ := h
  refine ⟨A, c, rfl, hc, hA, fun hn => ?_⟩
  obtain ⟨b, off, rfl, hp⟩ := h hn
  exact ⟨b, off, rfl, hp.keep hb⟩
theorem KP.of_own {w : World} {base : Nat} {e : TypeId} {v : Value} {n : Nat} {l : List (Int × Int)} (h : w.ownsRow base e 2 v n (prC l)) : KP w v l := by
  have hn : l.length = n := by have := h.1; rw [prC_len] at this; omega
  subst hn
  rcases h.2 with ⟨rfl, h0⟩ | ⟨g, cap, cur, rfl, _, hh, hcap, _, _, ht⟩
  · have : l = [] := by cases l with
      | nil => rfl
      | cons b r => simp at h0
    subst this
    exact ⟨none, 0, rfl, by simp, fun _ => rfl, fun hp => by simp at hp⟩
  · refine ⟨_, cap, rfl, hcap, fun e => (by cases e), fun hp => ⟨g, 0, rfl, (h.lt g rfl).2, fun j hj => ?_⟩⟩
    have h1 := h.cells (g := g) rfl (j * 2) _ (prC_at l j hj).1
    have h2 := h.cells (g := g) rfl (j * 2 + 1) _ (prC_at l j hj).2
    rw [WideShapes.add_plain] at h1 h2
    exact ⟨h1, by rw [← h2, Nat.add_assoc]⟩
theorem fl_tag : ∀ (L : List (Nat × EV)), flE L = prC (L.map (·.2))
  | [] => rfl
  | x :: L => by
    show k0 x.2 :: k1 x.2 :: flE L = .int .i64 x.2.1 :: .int .i64 x.2.2 :: prC (L.map (·.2))
    rw [fl_tag L]
theorem dueInfo : (Tryz.prog.info? 49).map (fun i => (i.zero, i.size, i.bytes)) = some (some (.agg #[.int .i64 0, .int .i64 0]), 2, 16) := by kernel_rfl
/-- a list that is being built -/
structure OutD (w0 : World) (vo : Value) (O : List (Int × Int)) (wx : World) : Prop where
  own : wx.ownsRow w0.heap.size 49 2 vo O.length (prC O)
  below : Below w0.heap.size w0 wx
theorem OutD.start {w0 wx : World} (h : Below w0.heap.size w0 wx) : OutD w0 (.slice none 0 0) [] wx := ⟨World.ownsRow_nil _ _ _ _, h⟩
theorem OutD.keep {w0 wx w' : World} {vo : Value} {O : List (Int × Int)} (h : OutD w0 vo O wx) (hb : Below wx.heap.size wx w') : OutD w0 vo O w' :=
  ⟨h.own.kept (row := none) ⟨hb.os, hb.tape, hb.output, hb.size, fun k hk _ => hb.block k hk⟩ (by cases vo.ownBlock <;> simp), h.below.trans (hb.mono h.below.size)⟩
theorem OutD.alloc {w0 wx : World} {vo : Value} {O : List (Int × Int)} (h : OutD w0 vo O wx) (o : Obj) : OutD w0 vo O (wx.alloc o) := h.keep ((Below.refl _ wx).alloc (Nat.le_refl _) o)
theorem OutD.append {w0 wx w' : World} {vo : Value} {O : List (Int × Int)} {p : Int × Int} {g cap : Nat} (h : OutD w0 vo O wx) (hown : w'.ownsRow w0.heap.size 49 2 (.slice (some ⟨g, 0, none⟩) (O.length + 1) cap) (O.length + 1) (prC O ++ [.int .i64 p.1, .int .i64 p.2])) (hg : wx.grownBy w' vo.ownBlock) : OutD w0 (.slice (some ⟨g, 0, none⟩) (O.length + 1) cap) (O ++ [p]) w' := by
  refine ⟨?_, h.below.grown hg (by have := h.below.size; omega) (fun g hg => (h.own.lt g hg).1)⟩
  rw [List.length_append]
  show w'.ownsRow _ _ _ _ (O.length + 1) _
  rw [show prC (O ++ [p]) = prC O ++ [.int .i64 p.1, .int .i64 p.2] by simp [prC]]
  exact hown
theorem OutD.kp {w0 wx : World} {vo : Value} {O : List (Int × Int)} (h : OutD w0 vo O wx) : KP wx vo O := KP.of_own h.own
/-- what is built, as the row that is sorted -/
theorem OutD.dat {w0 wx : World} {g n cap : Nat} {O : List (Int × Int)} (h : OutD w0 (.slice (some ⟨g, 0, none⟩) n cap) O wx) : Dat 49 wx g O.length cap (tagL 0 O) ∧ n = O.length ∧ w0.heap.size ≤ g := by
  have hf : flE (tagL 0 O) = prC O := by rw [fl_tag, tagL_snd]
  have hl : (tagL 0 O).length = O.length := by
    have := congrArg List.length (tagL_snd 0 O)
    rwa [List.length_map] at this
  rcases h.own.2 with ⟨h0, _⟩ | ⟨g', cap', cur, hv, hb, h3⟩
  · cases h0
  · injection hv with e1 e2 e3
    injection e1 with e1
    injection e1 with e1
    subst e1 e2 e3
    refine ⟨⟨⟨?_, .inr ⟨g, cap, cur, rfl, Nat.le_refl _, ?_⟩⟩, hl⟩, rfl, hb⟩
    · rw [hf]; exact h.own.1
    · rw [hf]; exact h3
theorem Only.above {b : Nat} {w a w' : World} (h : Only b a w') (ha : Below w.heap.size w a) (hB : w.heap.size ≤ b) : Below w.heap.size w w' :=
  ⟨h.os.trans ha.os, h.tape.trans ha.tape, h.output.trans ha.output, Nat.le_trans ha.size h.size, fun k hk => (h.block k (Nat.lt_of_lt_of_le hk ha.size) (by omega)).trans (ha.block k hk)⟩
/-- a box of cells that are known -/
structure BoxC (bx : Nat) (cs : Array Value) (w : World) : Prop where
  lt : bx < w.heap.size
  cells : ∀ j, w.cell? ⟨bx, j, none⟩ = cs[j]?
theorem BoxC.start (w : World) (cs : Array Value) (T : TypeId) : BoxC w.heap.size cs (w.alloc (.cells cs T)) := ⟨by simp, box_cell w cs T⟩
theorem BoxC.keep {bx : Nat} {cs : Array Value} {w w' : World} (h : BoxC bx cs w) (hb : Below w.heap.size w w') : BoxC bx cs w' :=
  ⟨Nat.lt_of_lt_of_le h.lt hb.size, fun j => (hb.cell (p := ⟨bx, j, none⟩) h.lt).trans (h.cells j)⟩
theorem BoxC.far {bx : Nat} {cs : Array Value} {w w' : World} {row : Option Nat} (h : BoxC bx cs w) (hg : w.grownBy w' row) (hne : some bx ≠ row) : BoxC bx cs w' :=
  ⟨Nat.lt_of_lt_of_le h.lt hg.size, fun j => (hg.cell_far ⟨bx, j, none⟩ h.lt hne).trans (h.cells j)⟩
/-- times -/
structure TX where
  a0 : Nat
  a1 : Nat
  a2 : Nat
  a3 : Nat
  a4 : Nat
  b5 : Bool
  b6 : Bool
def TX.ok (t : TX) : Prop := t.a0 < 18446744073709551616 ∧ t.a1 < 18446744073709551616 ∧ t.a2 < 18446744073709551616 ∧ t.a3 < 18446744073709551616 ∧ t.a4 < 18446744073709551616
noncomputable def TX.hit (t : TX) : Int → Bool := hitB t.a0 t.a1 t.a2 t.a3 t.a4 t.b5 t.b6
/-- what PrintTimes tells of times -/
def TX.er (t : TX) : Int := if ((List.range 5).all fun j => (fieldK t.a0 t.a1 t.a2 t.a3 t.a4 t.b5 t.b6 j).isSome) = true then 0 else 5
theorem TX.printed (t : TX) (h : t.ok) : ∃ s : ByteArray, printV (fieldK t.a0 t.a1 t.a2 t.a3 t.a4 t.b5 t.b6) = .tuple #[.string s, .int .i64 t.er] ∧ (t.er = 0 → t.a0 < 1152921504606846976) := by
  unfold TX.er
  by_cases hh : ((List.range 5).all fun j => (fieldK t.a0 t.a1 t.a2 t.a3 t.a4 t.b5 t.b6 j).isSome) = true
  · refine ⟨_, by unfold printV; rw [if_pos hh, if_pos hh], fun _ => minutes_small (List.all_eq_true.1 hh 0 (by decide)) h.1⟩
  · exact ⟨_, by unfold printV; rw [if_neg hh, if_neg hh], fun h => by rw [if_neg hh] at h; exact absurd h (by decide)⟩
def errL : List TX → Int
  | [] => 0
  | t :: r => if t.er = 0 then errL r else t.er
theorem errL_zero : ∀ (L : List TX), (∀ j (h : j < L.length), L[j].er = 0) → errL L = 0
  | [], _ => rfl
  | t :: r, h => by
    rw [errL, if_pos (show t.er = 0 from h 0 (by simp))]
    exact errL_zero r fun j hj => h (j + 1) (by simpa using hj)
theorem errL_at : ∀ (L : List TX) (i : Nat) (hi : i < L.length), (∀ j (h : j < L.length), j < i → L[j].er = 0) → L[i].er ≠ 0 → errL L = L[i].er
  | t :: r, 0, _, _, h => by rw [errL]; exact if_neg h
  | t :: r, i + 1, hi, h1, h => by
    rw [errL, if_pos (show t.er = 0 from h1 0 (by simp) (by omega))]
    exact errL_at r i (by simpa using hi) (fun j hj hji => h1 (j + 1) (by simpa using hj) (by omega)) h
/-- at which minutes a line fits -/
noncomputable def fitF (L : List TX) (i : Nat) (m : Int) : Bool := match L[i]? with
  | some t => t.hit m
  | none => false
theorem fitF_at {L : List TX} {i : Nat} (h : i < L.length) : fitF L i = L[i].hit := by
  funext m
  unfold fitF
  rw [List.getElem?_eq_getElem h]
/-- timed lines in memory -/
structure TL (b : Nat) (L : List TX) (w : World) : Prop where
  lt : b < w.heap.size
  cells : ∀ i (h : i < L.length), w.cell? ⟨b, i * 8, none⟩ = some (.int .u64 (L[i].a0 : Int)) ∧ w.cell? ⟨b, i * 8 + 1, none⟩ = some (.int .u64 (L[i].a1 : Int)) ∧ w.cell? ⟨b, i * 8 + 2, none⟩ = some (.int .u64 (L[i].a2 : Int)) ∧ w.cell? ⟨b, i * 8 + 3, none⟩ = some (.int .u64 (L[i].a3 : Int)) ∧ w.cell? ⟨b, i * 8 + 4, none⟩ = some (.int .u64 (L[i].a4 : Int)) ∧ w.cell? ⟨b, i * 8 + 5, none⟩ = some (.bool L[i].b5) ∧ w.cell? ⟨b, i * 8 + 6, none⟩ = some (.bool L[i].b6) ∧ w.cell? ⟨b, i * 8 + 7, none⟩ = some (.string ⟨#[99]⟩)
theorem TL.keep {b : Nat} {L : List TX} {w w' : World} (h : TL b L w) (hb : Below w.heap.size w w') : TL b L w' := by
  refine ⟨Nat.lt_of_lt_of_le h.lt hb.size, fun i hi => ?_⟩
  obtain ⟨h0, h1, h2, h3, h4, h5, h6, h7⟩ := h.cells i hi
  have hc : ∀ j, w'.cell? ⟨b, j, none⟩ = w.cell? ⟨b, j, none⟩ := fun j => hb.cell (p := ⟨b, j, none⟩) h.lt
  exact ⟨(hc _).trans h0, (hc _).trans h1, (hc _).trans h2, (hc _).trans h3, (hc _).trans h4, (hc _).trans h5, (hc _).trans h6, (hc _).trans h7⟩
/-- what Fires tells -/
def FiGives (L : List TX) (fa tb : Int) (w : World) (e : Ending) (w' : World) : Prop := Below w.heap.size w w' ∧
  ((errL L ≠ 0 ∧ e = .returned (.tuple #[.slice none 0 0, .int .i64 (errL L)])) ∨
   (errL L = 0 ∧ FRes (fitF L) L.length fa tb none ∧ e = .returned (.tuple #[.slice none 0 0, .int .i64 24])) ∨
   (errL L = 0 ∧ ∃ O vo, FRes (fitF L) L.length fa tb (some O) ∧ e = .returned (.tuple #[vo, .int .i64 0]) ∧ KP w' vo O))
/-- the parts' contracts for times -/
theorem TX.prints (t : TX) (h : t.ok) : ∃ s : ByteArray, (t.er = 0 → t.a0 < 1152921504606846976) ∧ ∀ W, Calls Tryz.prog 8 #[.agg #[.int .u64 (t.a0 : Int), .int .u64 (t.a1 : Int), .int .u64 (t.a2 : Int), .int .u64 (t.a3 : Int), .int .u64 (t.a4 : Int), .bool t.b5, .bool t.b6]] W fun e w' => e = .returned (.tuple #[.string s, .int .i64 t.er]) ∧ Below W.heap.size W w' := by
  obtain ⟨s, hs, he⟩ := t.printed h
  refine ⟨s, he, fun W => ?_⟩
  rw [← hs]
  exact print_any t.a0 t.a1 t.a2 t.a3 t.a4 t.b5 t.b6 W h.1 h.2.1 h.2.2.1 h.2.2.2.1 h.2.2.2.2 (fields_small _ _ _ _ _ _ _ h.1 h.2.1 h.2.2.1 h.2.2.2.1 h.2.2.2.2)
theorem TX.rprints (t : TX) (h : t.ok) : ∃ s : ByteArray, ∀ W, MaxLenAt W → Calls Tryz.prog 9 #[.agg #[.int .u64 (t.a0 : Int), .int .u64 (t.a1 : Int), .int .u64 (t.a2 : Int), .int .u64 (t.a3 : Int), .int .u64 (t.a4 : Int), .bool t.b5, .bool t.b6]] W fun e w' => e = .returned (.tuple #[.string s, .int .i64 t.er]) ∧ Below W.heap.size W w' := by
  obtain ⟨s, hs, _⟩ := t.printed h
  refine ⟨s, fun W hm => ?_⟩
  rw [← hs]
  exact rprint_any t.a0 t.a1 t.a2 t.a3 t.a4 t.b5 t.b6 W h.1 h.2.1 h.2.2.1 h.2.2.2.1 h.2.2.2.2 (fields_small _ _ _ _ _ _ _ h.1 h.2.1 h.2.2.1 h.2.2.2.1 h.2.2.2.2) hm
theorem TX.dues (t : TX) (h : t.ok) (h0 : t.er = 0) (m : Int) (W : World) (h1 : 15778080 ≤ m) (h2 : m ≤ 68374080) (hT : DebAt W) : Calls Tryz.prog 37 #[.agg #[.int .u64 (t.a0 : Int), .int .u64 (t.a1 : Int), .int .u64 (t.a2 : Int), .int .u64 (t.a3 : Int), .int .u64 (t.a4 : Int), .bool t.b5, .bool t.b6], .int .i64 m] W (DueGives t.hit m W) := by
  obtain ⟨_, _, hs⟩ := t.printed h
  exact due_any t.a0 t.a1 t.a2 t.a3 t.a4 t.b5 t.b6 m W (hs h0) h.2.1 h.2.2.1 h.2.2.2.1 h.2.2.2.2 h1 h2 hT
theorem TX.nexts (t : TX) (h : t.ok) (m : Int) (W : World) (h1 : 15778080 ≤ m) (h2 : m ≤ 68374080) : Calls Tryz.prog 38 #[.agg #[.int .u64 (t.a0 : Int), .int .u64 (t.a1 : Int), .int .u64 (t.a2 : Int), .int .u64 (t.a3 : Int), .int .u64 (t.a4 : Int), .bool t.b5, .bool t.b6], .int .i64 m] W (RNextGives t.hit m W) :=
  rnext_any t.a0 t.a1 t.a2 t.a3 t.a4 t.b5 t.b6 m W h.1 h.2.1 h.2.2.1 h.2.2.2.1 h.2.2.2.2 h1 h2
end Go.Proofs.YtlhaidibcocooaaGreatDoor

namespace Go.Proofs.YtlhaidibcocooaaGreatDoor
open Go.RowKit

set_option maxHeartbeats 1600000 in
/-- the sort of an empty list -/
theorem ins_nil (w : World) :
    Calls Tryz.prog 108 #[.slice none 0 0, .int .i64 0, .int .i64 0, .func (.func 44) #[] #[]] w fun e w' => e = .returned (.tuple #[]) ∧ w = w' := by
  go_enter Tryz.func108, Tryz.ntmps108
  go_wp2_with fail
  go_loopw [8] (fun s8 wr => s8 = .int .i64 1 ∧ wr = w) (fun _ _ => 0)
  case atStart => exact ⟨rfl, rfl⟩
  case round =>
    obtain ⟨rfl, rfl⟩ := hrel
    go_wp2_with fail
    go_end0
    exact ⟨rfl, rfl⟩
set_option maxHeartbeats 1600000 in
theorem stable_nil (w : World) :
    Calls Tryz.prog 79 #[.slice none 0 0, .int .i64 0, .func (.func 44) #[] #[]] w fun e w' => e = .returned (.tuple #[]) ∧ w = w' := by
  go_enter Tryz.func79, Tryz.ntmps79
  go_wp2_with fail
  go_loopw [7, 8] (fun s7 s8 wr => s7 = .int .i64 0 ∧ s8 = .int .i64 20 ∧ wr = w) (fun _ _ _ => 0)
  case atStart => exact ⟨rfl, rfl, rfl⟩
  case round =>
    obtain ⟨rfl, rfl, rfl⟩ := hrel
    go_wp2_with fail
    refine (ins_nil _).mono ?_
    rintro e w2 ⟨rfl, rfl⟩
    go_wp2_with fail
    go_loopw [6] (fun s6 wx => s6 = .int .i64 20 ∧ wx = wr) (fun _ _ => 0)
    case atStart => exact ⟨rfl, rfl⟩
    case round =>
      obtain ⟨rfl, rfl⟩ := hrel
      go_wp2_with fail
      go_end0
      exact ⟨rfl, rfl⟩
set_option maxHeartbeats 1600000 in
theorem sort_nil (w : World) :
    Calls Tryz.prog 43 #[.slice none 0 0, .func (.func 44) #[] #[]] w fun e w' => e = .returned (.tuple #[]) ∧ w = w' := by
  go_enter Tryz.func43, Tryz.ntmps43
  go_wp2_with fail
  refine (stable_nil _).mono ?_
  rintro e w2 ⟨rfl, rfl⟩
  go_wp2_with fail
  go_end0
  exact ⟨rfl, rfl⟩
/-- the sort of what was built -/
theorem sort_out {F : Nat → Int → Bool} {k : Nat} {fa tb : Int} {O : List (Int × Int)} {vo : Value} {w0 w : World} (h : OutD w0 vo O w) (hp : LinS F fa tb k fa O) (hl : O.length ≤ 10000) (h1 : 15778080 ≤ fa) (h2 : tb ≤ 68374080) :
    Calls Tryz.prog 43 #[vo, .func (.func 44) #[] #[]] w fun e w' => e = .returned (.tuple #[]) ∧ Below w0.heap.size w0 w' ∧ ∃ Z, FRes F k fa tb (some Z) ∧ KP w' vo Z := by
  rcases h.own.2 with ⟨rfl, h0⟩ | ⟨g, cap, cur, rfl, _⟩
  · have hO : O = [] := List.length_eq_zero_iff.1 h0
    subst hO
    refine (sort_nil w).mono ?_
    rintro e w' ⟨rfl, rfl⟩
    refine ⟨rfl, h.below, [], ⟨?_, by simp⟩, h.kp⟩
    exact sorted_is hp (Z := []) (List.Perm.refl _) List.Pairwise.nil
  · obtain ⟨hd, _, hg⟩ := h.dat
    have hgood : ∀ p ∈ tagL 0 O, goodE p.2 := fun p hp' => by
      have hm := (tagL_ge 0 O p hp').2
      rcases (hp.mem p.2).1 hm with ⟨x1, x2, _⟩ | ⟨_, x1, x2, _⟩
      · exact ⟨by omega, by omega⟩
      · exact ⟨by omega, by omega⟩
    refine (sort_any g O.length cap (tagL 0 O) w hd (tagL_rise 0 O) hgood (by omega)).mono ?_
    rintro e w' ⟨rfl, ⟨Z, hZ, hS, hD⟩, ho⟩
    refine ⟨rfl, ho.above h.below hg, Z.map (·.2), ⟨sorted_is hp hZ hS, ?_⟩, ?_⟩
    · have h1 := hZ.length_eq
      have h2 := congrArg List.length (tagL_snd 0 O)
      rw [List.length_map] at h2
      rw [List.length_map]
      omega
    · have := hD.own
      rw [fl_tag] at this
      exact KP.of_own this

/-- what is left of the calendar -/
def dueM (s15 s16 : Value) : Nat := match s16 with
  | .bool true => (68374081 - intOf s15).toNat
  | _ => 0
theorem dueM_less {f : Int → Bool} {m : Int} {r : Option Int} (h : m < 68374080) (hr : LeastAt f (m + 1) 68374080 r) : dueM (.int .i64 (r.getD 0)) (.bool r.isSome) < dueM (.int .i64 m) (.bool true) := by
  cases r with
  | none => simp [dueM, intOf]; omega
  | some n => have := hr.1; simp [dueM, intOf]; omega
set_option maxRecDepth 100000 in
set_option maxHeartbeats 6400000 in
theorem fires_any (L : List TX) (b k c : Nat) (fa tb : Int) (w : World) (hL : TL b L w) (hk : L.length = k) (hok : ∀ t ∈ L, t.ok) (h1 : 15778080 ≤ fa) (h2 : fa ≤ tb) (h3 : tb ≤ 68374080) (h4 : fa ≤ 68374079) (hk4 : k ≤ 100) (hT : DebAt w) :
    Calls Tryz.prog 17 #[.slice (some ⟨b, 0, none⟩) k c, .int .i64 fa, .int .i64 tb] w (FiGives L fa tb w) := by
  obtain ⟨R, hR⟩ : ∃ R, FiGives L fa tb w = R := ⟨_, rfl⟩
  rw [hR]
  have HR := Lib.hid hR
  have HL := Lib.hid hL
  have HK := Lib.hid hk
  have HOK := Lib.hid hok
  have HT := Lib.hid hT
  obtain ⟨i0, hi, hz0, hz1, hz2⟩ := info_parts dueInfo
  clear hR hL hk hok hT
  go_enter Tryz.func17, Tryz.ntmps17
  go_wp2_with fail
  go_loopw [19] (fun s19 wr => ∃ i : Nat, s19 = .int .i64 (i : Int) ∧ Hid (i ≤ k) ∧ Hid (∀ j (h : j < L.length), j < i → L[j].er = 0) ∧ Hid (Below w.heap.size w wr)) (fun s19 _ => k - (intOf s19).toNat)
  case atStart => exact ⟨0, rfl, Lib.hid (Nat.zero_le _), Lib.hid (fun j _ h => absurd h (Nat.not_lt_zero _)), Lib.hid (Below.refl _ _)⟩
  case round =>
    obtain ⟨i, rfl, HI, HE, HB⟩ := hrel
    by_cases hlt : i < k
    · have hltz : (i : Int) < (k : Int) := Int.ofNat_lt.2 hlt
      have hiL : i < L.length := by rw [HK.out]; exact hlt
      have hcl := (HL.out.keep HB.out).cells i hiL
      obtain ⟨s, hs, hpr⟩ := L[i].prints (HOK.out _ (List.getElem_mem hiL))
      have HEt := Lib.hid (fun h : L[i].er ≠ 0 => errL_at L i hiL HE.out h)
      have HEz := Lib.hid (fun (h : L[i].er = 0) j (hj : j < L.length) (hji : j < i + 1) => (show L[j].er = 0 by
        by_cases e : j = i
        · subst e; exact h
        · exact HE.out j hj (by omega)))
      generalize L[i] = t at *
      obtain ⟨a0, a1, a2, a3, a4, b5, b6⟩ := t
      dsimp only at hcl hpr
      generalize TX.er ⟨a0, a1, a2, a3, a4, b5, b6⟩ = er at *
      obtain ⟨c0, c1, c2, c3, c4, c5, c6, c7⟩ := hcl
      have HP := Lib.hid hpr
      clear hs hpr
      go_wp2_with fail
      refine (HP.out _).mono ?_
      rintro e w3 ⟨rfl, hb3⟩
      have HB3 := Lib.hid ((HB.out.alloc HB.out.size _).trans (hb3.mono (by have := HB.out.size; simp; omega)))
      clear c0 c1 c2 c3 c4 c5 c6 c7 hb3 HB
      by_cases her : er = 0
      · subst her
        go_wp2_with fail
        exact ⟨⟨i + 1, by go_num, Lib.hid hlt, Lib.hid (fun j hj hji => HEz.out trivial j hj hji), HB3⟩, by simp [intOf]; omega⟩
      · have hne : (er != 0) = true := by simpa using her
        have HER := Lib.hid her
        clear her
        go_wp2_with fail
        rw [← HR.out]
        exact ⟨HB3.out, .inl ⟨by rw [HEt.out HER.out]; exact HER.out, by rw [HEt.out HER.out]; rfl⟩⟩
    · have hnz : ¬ (i : Int) < (k : Int) := fun h => hlt (Int.ofNat_lt.1 h)
      have HEall := Lib.hid (show ∀ j (h : j < L.length), L[j].er = 0 from fun j hj => HE.out j hj (by have := HK.out; omega))
      clear hlt HE HI
      go_wp2_with fail
      refine (inYears_any fa _).mono ?_
      rintro e w3 ⟨rfl, hb3⟩
      have hyd : decide (15778080 ≤ fa ∧ fa ≤ 68374079) = true := decide_eq_true ⟨h1, h4⟩
      rw [hyd]
      have HB3 := Lib.hid (HB.out.trans (hb3.mono HB.out.size))
      clear hyd hb3 HB
      go_wp2_with fail
      refine (begin_2100 _).mono ?_
      rintro e w4 ⟨rfl, hb4⟩
      have HB4 := Lib.hid (HB3.out.trans (hb4.mono HB3.out.size))
      clear hb4 HB3
      go_wp2_with fail
      refine (bwithin_any tb fa 68374080 _).mono ?_
      rintro e w5 ⟨rfl, rfl⟩
      have hyd : decide (fa ≤ tb ∧ tb ≤ 68374080) = true := decide_eq_true ⟨h2, h3⟩
      rw [hyd]
      clear hyd
      go_wp2_with fail
      go_loopw [12, 45] (fun s12 s45 wx => ∃ (vo : Value) (O : List (Int × Int)) (i : Nat), vo = s12 ∧ s45 = .int .i64 (i : Int) ∧ Hid (i ≤ k) ∧ Hid (LinS (fitF L) fa tb i fa O) ∧ Hid (OutD w vo O wx) ∧ Hid (O.length ≤ 10000)) (fun _ s45 _ => k - (intOf s45).toNat)
      case atStart => exact ⟨_, [], 0, rfl, rfl, Lib.hid (Nat.zero_le _), Lib.hid (LinS.start _ _ _), Lib.hid (OutD.start HB4.out), Lib.hid (by simp)⟩
      case round =>
        clear HB4
        obtain ⟨vo, O, i, rfl, rfl, HI, HS, HO, HN⟩ := hrel
        by_cases hlt : i < k
        · have hltz : (i : Int) < (k : Int) := Int.ofNat_lt.2 hlt
          have hiL : i < L.length := by rw [HK.out]; exact hlt
          have hcl := (HL.out.keep HO.out.below).cells i hiL
          have hdue := L[i].dues (HOK.out _ (List.getElem_mem hiL)) (HEall.out i hiL)
          have hF := fitF_at hiL
          generalize L[i] = t at *
          obtain ⟨a0, a1, a2, a3, a4, b5, b6⟩ := t
          dsimp only at hcl hdue
          generalize TX.hit ⟨a0, a1, a2, a3, a4, b5, b6⟩ = f at *
          have HF := Lib.hid hF
          have HDu := Lib.hid hdue
          obtain ⟨c0, c1, c2, c3, c4, c5, c6, c7⟩ := hcl
          have HX := Lib.hid (BoxC.start wr #[.int .u64 (a0 : Int), .int .u64 (a1 : Int), .int .u64 (a2 : Int), .int .u64 (a3 : Int), .int .u64 (a4 : Int), .bool b5, .bool b6, .string ⟨#[99]⟩] 43)
          have HOx := Lib.hid (HO.out.alloc (.cells #[.int .u64 (a0 : Int), .int .u64 (a1 : Int), .int .u64 (a2 : Int), .int .u64 (a3 : Int), .int .u64 (a4 : Int), .bool b5, .bool b6, .string ⟨#[99]⟩] 43))
          have HFr := Lib.hid (show ∀ g, vo.ownBlock = some g → g ≠ wr.heap.size from fun g hg => by have := (HO.out.own.lt g hg).2; omega)
          clear hF hdue HO
          go_wp2_with fail
          refine (HDu.out fa _ h1 (by omega) (HT.out.keep HOx.out.below)).mono ?_
          rintro e w6 ⟨r, hr, rfl, hb6⟩
          have hdv : dueV r = .tuple #[.int .i64 (r.getD 0), .bool r.isSome] := by cases r <;> rfl
          rw [hdv]
          have HLe := Lib.hid hr
          have HX6 := Lib.hid (HX.out.keep hb6)
          have HO6 := Lib.hid (HOx.out.keep hb6)
          clear hr hb6 HX HOx hdv c0 c1 c2 c3 c4 c5 c6 c7
          generalize wr.heap.size = bx at *
          go_wp2_with fail
          go_loopw [12, 15, 16] (fun s12 s15 s16 wy => ∃ (vo : Value) (O : List (Int × Int)) (r : Option Int) (c : Int), vo = s12 ∧ s15 = .int .i64 (r.getD 0) ∧ s16 = .bool r.isSome ∧ Hid (fa ≤ c ∧ c ≤ tb) ∧ Hid (LeastAt f c 68374080 r) ∧ Hid (LinS (fitF L) fa tb i c O) ∧ Hid (OutD w vo O wy) ∧ Hid (O.length ≤ 10000) ∧ Hid (BoxC bx #[.int .u64 (a0 : Int), .int .u64 (a1 : Int), .int .u64 (a2 : Int), .int .u64 (a3 : Int), .int .u64 (a4 : Int), .bool b5, .bool b6, .string ⟨#[99]⟩] wy) ∧ Hid (∀ g, vo.ownBlock = some g → g ≠ bx)) (fun _ s15 s16 _ => dueM s15 s16)
          case atStart => exact ⟨vo, O, r, fa, rfl, rfl, rfl, Lib.hid ⟨Int.le_refl _, h2⟩, HLe, HS, HO6, HN, HX6, HFr⟩
          case round =>
            clear HLe HS HO6 HN HX6 HFr
            obtain ⟨vo, O, r, c, rfl, rfl, rfl, HC, HLe, HS, HO, HN, HX, HFr⟩ := hrel
            cases r with
            | none =>
              have HS2 := Lib.hid (HS.out.next HC.out.2 (fun j q1 q2 => by rw [HF.out]; exact HLe.out j q1 (by omega)))
              simp only [Option.isSome_none, Option.getD_none]
              go_wp2_with fail
              exact ⟨⟨vo, O, i + 1, rfl, by go_num, Lib.hid hlt, HS2, HO, HN⟩, by simp [intOf]; omega⟩
            | some m =>
              have hm1 := HLe.out.1
              have hm2 := HLe.out.2.1
              have hm3 := HC.out.1
              simp only [Option.isSome_some, Option.getD_some]
              by_cases hm : m < tb
              · have HM := Lib.hid (show O.length + 1 ≤ maxLen ∧ (O.length + 1) * 16 ≤ 140737488355328 by have := HN.out; unfold maxLen; omega)
                have HT2 := Lib.hid (HS.out.take hm3 hm1 (by rw [HF.out]; exact HLe.out.2.2.1) (fun j q1 q2 => by rw [HF.out]; exact HLe.out.2.2.2 j q1 q2))
                have hm4 : 15778080 ≤ m := by omega
                have HMF := Lib.hid (show fa ≤ m + 1 ∧ m + 1 ≤ tb by omega)
                clear hm1 hm3
                go_wp2_with (at_builtin; refine wpList_append_lies _ rfl _ _ 44 rfl w.heap.size 49 i0 _ 2 16 Tryz.underlying44 hi hz0 hz1 hz2 rfl (by decide) _ O.length _ rfl (HO.out.alloc _).own _ 1 1 [.int .i64 m, .int .i64 (i : Int)] rfl rfl (World.news_of_block (heap_alloc_new _ _)) (by intro u hu; simp at hu; rcases hu with rfl | rfl <;> rfl) (by decide) HM.out.1 HM.out.2 (Nat.le_trans HO.out.below.size (by simp)) _ rfl ?_)
                intro g1 cap w9 hown9 hg9 hat9 hlt9
                have HO9 := Lib.hid ((HO.out.alloc _).append (p := (m, (i : Int))) hown9 hg9)
                have HX9 := Lib.hid ((HX.out.keep ((Below.refl _ _).alloc (Nat.le_refl _) _)).far hg9 (fun e => HFr.out bx e.symm rfl))
                have HFr9 := Lib.hid (show ∀ g, (Value.slice (some ⟨g1, 0, none⟩) (O.length + 1) cap).ownBlock = some g → g ≠ bx from fun g hg => by
                  have hgg : g1 = g := by simpa [Value.ownBlock] using hg
                  subst hgg
                  rcases hat9 with h | h
                  · exact HFr.out g1 h
                  · have := HX.out.lt
                    first
                      | omega
                      | (simp at h; omega))
                clear hown9 hg9 hat9 hlt9
                by_cases hfu : O.length = 10000
                · have hfz : (O.length : Int) + 1 > 10000 := by omega
                  have HZ := Lib.hid (show Many (fitF L) L.length fa tb 10000 from HT2.out.many (by rw [HK.out]; exact hlt) (by omega) (by simp; omega))
                  clear hfu
                  go_wp2_with fail
                  rw [← HR.out]
                  exact ⟨HO9.out.below, .inr (.inl ⟨errL_zero L HEall.out, HZ.out, rfl⟩)⟩
                · have hfz : ¬ (O.length : Int) + 1 > 10000 := by have := HN.out; omega
                  have HN2 := Lib.hid (show (O ++ [(m, (i : Int))]).length ≤ 10000 by have := HN.out; simp; omega)
                  have cx := HX9.out.cells
                  clear hfu
                  go_wp2_with fail
                  refine (HDu.out (m + 1) _ (by omega) (by omega) (HT.out.keep HO9.out.below)).mono ?_
                  rintro e w10 ⟨r2, hr2, rfl, hb10⟩
                  have hdv : dueV r2 = .tuple #[.int .i64 (r2.getD 0), .bool r2.isSome] := by cases r2 <;> rfl
                  rw [hdv]
                  have HLe2 := Lib.hid hr2
                  have HX10 := Lib.hid (HX9.out.keep hb10)
                  have HO10 := Lib.hid (HO9.out.keep hb10)
                  clear hr2 hb10 cx hdv
                  go_wp2_with fail
                  refine ⟨⟨_, O ++ [(m, (i : Int))], r2, m + 1, rfl, rfl, rfl, HMF, HLe2, HT2, HO10, HN2, HX10, HFr9⟩, dueM_less hm2 HLe2.out⟩
              · have HS2 := Lib.hid (HS.out.next HC.out.2 (fun j q1 q2 => by rw [HF.out]; exact HLe.out.2.2.2 j q1 (by omega)))
                clear hm1 hm2 hm3
                go_wp2_with fail
                exact ⟨⟨vo, O, i + 1, rfl, by go_num, Lib.hid hlt, HS2, HO, HN⟩, by simp [intOf]; omega⟩
        · have hnz2 : ¬ (i : Int) < (k : Int) := fun h => hlt (Int.ofNat_lt.1 h)
          have hik : i = L.length := by have := HI.out; have := HK.out; omega
          have HSo := Lib.hid (sort_out HO.out HS.out HN.out h1 h3)
          rw [hik] at HSo
          clear hlt hik
          go_wp2_with fail
          refine HSo.out.mono ?_
          rintro e w7 ⟨rfl, hb7, Z, hZ, hkp⟩
          have HZ := Lib.hid (And.intro hb7 (And.intro hZ hkp))
          clear hb7 hZ hkp
          go_wp2_with fail
          rw [← HR.out]
          exact ⟨HZ.out.1, .inr (.inr ⟨errL_zero L HEall.out, Z, vo, HZ.out.2.1, rfl, HZ.out.2.2⟩)⟩
end Go.Proofs.YtlhaidibcocooaaGreatDoor

namespace Go.Proofs.YtlhaidibcocooaaGreatDoor
open Go.RowKit

def nxV (r : Option Int) : Value := .int .i64 (r.getD (-1))
/-- the slice of the next minutes -/
structure NxD (w0 : World) (g k : Nat) (rs : List (Option Int)) (wx : World) : Prop where
  own : wx.ownsRow w0.heap.size 3 1 (.slice (some ⟨g, 0, none⟩) k k) k (rs.map nxV)
  len : rs.length = k
theorem NxD.lt {w0 wx : World} {g k : Nat} {rs : List (Option Int)} (h : NxD w0 g k rs wx) : w0.heap.size ≤ g ∧ g < wx.heap.size := h.own.lt g rfl
theorem NxD.keep {w0 wx w' : World} {g k : Nat} {rs : List (Option Int)} (h : NxD w0 g k rs wx) (hb : Below wx.heap.size wx w') : NxD w0 g k rs w' :=
  ⟨h.own.kept (row := none) ⟨hb.os, hb.tape, hb.output, hb.size, fun k hk _ => hb.block k hk⟩ (Classical.em _), h.len⟩
theorem NxD.far {w0 wx w' : World} {g k : Nat} {rs : List (Option Int)} {row : Option Nat} (h : NxD w0 g k rs wx) (hg : wx.grownBy w' row) (hne : some g ≠ row) : NxD w0 g k rs w' :=
  ⟨h.own.kept hg (.inr hne), h.len⟩
theorem NxD.at {w0 wx : World} {g k : Nat} {rs : List (Option Int)} (h : NxD w0 g k rs wx) {i : Nat} (hi : i < rs.length) : wx.cell? ⟨g, i, none⟩ = some (nxV rs[i]) := by
  have hl := h.len
  rw [h.own.cellAt i (by omega), List.getElem?_map, List.getElem?_eq_getElem hi]
  rfl
theorem NxD.fz {w0 wx : World} {g k : Nat} {rs : List (Option Int)} (h : NxD w0 g k rs wx) (j : Nat) : wx.frozen? ⟨g, j, none⟩ = false := h.own.frozenAt j
theorem NxD.set {w0 wx : World} {g k : Nat} {rs : List (Option Int)} (h : NxD w0 g k rs wx) (i : Nat) (r : Option Int) : NxD w0 g k (rs.set i r) (wx.setCell ⟨g, i, none⟩ (nxV r)) := by
  refine ⟨?_, by rw [List.length_set]; exact h.len⟩
  have := (h.own.stored i (nxV r)).1
  rwa [show (rs.map nxV).set i (nxV r) = (rs.set i r).map nxV by rw [List.map_set]] at this
theorem NxD.below_set {w0 wx : World} {g k : Nat} {rs : List (Option Int)} (h : NxD w0 g k rs wx) (hb : Below w0.heap.size w0 wx) (i : Nat) (u : Value) : Below w0.heap.size w0 (wx.setCell ⟨g, i, none⟩ u) := hb.setCell h.lt.1 u
theorem OutD.other {w0 wx : World} {vo : Value} {O : List (Int × Int)} {g : Nat} (h : OutD w0 vo O wx) (hg : w0.heap.size ≤ g) (hne : vo.ownBlock ≠ some g) (i : Nat) (u : Value) : OutD w0 vo O (wx.setCell ⟨g, i, none⟩ u) :=
  ⟨ownsRow_setCell_other h.own hne u, h.below.setCell hg u⟩
theorem intInfo' : (Tryz.prog.info? 3).map (fun i => (i.zero, i.size, i.bytes)) = some (some (.int .i64 0), 1, 8) := by kernel_rfl
/-- the lines from lo up to hi: the least minutes from c on -/
def NxL (L : List TX) (rs : List (Option Int)) (c : Int) (lo hi : Nat) : Prop := ∀ j (h : j < rs.length), lo ≤ j → j < hi → LeastAt (fitF L j) c 68374080 rs[j]
theorem NxL.set {L : List TX} {rs : List (Option Int)} {c c' : Int} {lo hi i : Nat} (h : NxL L rs c lo i) (h0 : hi = i + 1) {r : Option Int} (hc : c = c') (hr : LeastAt (fitF L i) c' 68374080 r) : NxL L (rs.set i r) c lo hi := by
  subst h0 hc
  intro j hj h1 h2
  rw [List.length_set] at hj
  by_cases e : i = j
  · subst e
    rw [List.getElem_set_self]
    exact hr
  · rw [List.getElem_set_ne e]
    exact h j hj h1 (by omega)
theorem NxL.other {L : List TX} {rs : List (Option Int)} {c : Int} {lo hi i : Nat} (h : NxL L rs c lo hi) (h0 : i < lo) (r : Option Int) : NxL L (rs.set i r) c lo hi := by
  intro j hj h1 h2
  rw [List.length_set] at hj
  rw [List.getElem_set_ne (by omega)]
  exact h j hj h1 h2
theorem NxL.part {L : List TX} {rs : List (Option Int)} {c : Int} {lo hi lo' hi' : Nat} (h : NxL L rs c lo hi) (h1 : lo ≤ lo') (h2 : hi' ≤ hi) : NxL L rs c lo' hi' := fun j hj a b => h j hj (by omega) (by omega)
/-- the least of the next minutes that lies within the stretch -/
def LoS (rs : List (Option Int)) (tb : Int) (j : Nat) (lo : Int) : Prop :=
  (lo = -1 ∧ ∀ q (h : q < rs.length), q < j → ∀ m, rs[q] = some m → tb ≤ m) ∨ (0 ≤ lo ∧ lo < tb ∧ (∃ q, ∃ h : q < rs.length, q < j ∧ rs[q] = some lo) ∧ ∀ q (h : q < rs.length), q < j → ∀ m, rs[q] = some m → lo ≤ m)
theorem LoS.start (rs : List (Option Int)) (tb : Int) : LoS rs tb 0 (-1) := .inl ⟨rfl, fun _ _ h => absurd h (Nat.not_lt_zero _)⟩
theorem LoS.none {rs : List (Option Int)} {tb lo : Int} {j : Nat} (h : LoS rs tb j lo) (hj : j < rs.length) (hr : rs[j] = none) : LoS rs tb (j + 1) lo := by
  rcases h with ⟨h1, h2⟩ | ⟨h1, h2, ⟨q, hq, hqj, hqe⟩, h4⟩
  · refine .inl ⟨h1, fun q hq hqj m hm => ?_⟩
    by_cases e : q = j
    · subst e; rw [hr] at hm; cases hm
    · exact h2 q hq (by omega) m hm
  · refine .inr ⟨h1, h2, ⟨q, hq, by omega, hqe⟩, fun q hq hqj m hm => ?_⟩
    by_cases e : q = j
    · subst e; rw [hr] at hm; cases hm
    · exact h4 q hq (by omega) m hm
theorem LoS.big {rs : List (Option Int)} {tb lo m : Int} {j : Nat} (h : LoS rs tb j lo) (hj : j < rs.length) (hr : rs[j] = some m) (hm : tb ≤ m) : LoS rs tb (j + 1) lo := by
  rcases h with ⟨h1, h2⟩ | ⟨h1, h2, ⟨q, hq, hqj, hqe⟩, h4⟩
  · refine .inl ⟨h1, fun q hq hqj m' hm' => ?_⟩
    by_cases e : q = j
    · subst e; rw [hr] at hm'; cases hm'; exact hm
    · exact h2 q hq (by omega) m' hm'
  · refine .inr ⟨h1, h2, ⟨q, hq, by omega, hqe⟩, fun q hq hqj m' hm' => ?_⟩
    by_cases e : q = j
    · subst e; rw [hr] at hm'; cases hm'; omega
    · exact h4 q hq (by omega) m' hm'
theorem LoS.stay {rs : List (Option Int)} {tb lo m : Int} {j : Nat} (h : LoS rs tb j lo) (hj : j < rs.length) (hr : rs[j] = some m) (h0 : ¬ lo < 0) (hm : ¬ m < lo) : LoS rs tb (j + 1) lo := by
  rcases h with ⟨h1, h2⟩ | ⟨h1, h2, ⟨q, hq, hqj, hqe⟩, h4⟩
  · omega
  · refine .inr ⟨h1, h2, ⟨q, hq, by omega, hqe⟩, fun q hq hqj m' hm' => ?_⟩
    by_cases e : q = j
    · subst e; rw [hr] at hm'; cases hm'; omega
    · exact h4 q hq (by omega) m' hm'
theorem LoS.take {rs : List (Option Int)} {tb lo m : Int} {j : Nat} (h : LoS rs tb j lo) (hj : j < rs.length) (hr : rs[j] = some m) (h0 : 0 ≤ m) (hm : m < tb) (hl : lo < 0 ∨ m < lo) : LoS rs tb (j + 1) m := by
  refine .inr ⟨h0, hm, ⟨j, hj, by omega, hr⟩, fun q hq hqj m' hm' => ?_⟩
  by_cases e : q = j
  · subst e; rw [hr] at hm'; cases hm'; exact Int.le_refl _
  · rcases h with ⟨h1, h2⟩ | ⟨h1, h2, _, h4⟩
    · have := h2 q hq (by omega) m' hm'
      omega
    · have := h4 q hq (by omega) m' hm'
      omega
/-- none lies within the stretch: the list is done -/
theorem LoS.done {L : List TX} {rs : List (Option Int)} {fa c tb lo : Int} {k : Nat} {O : List (Int × Int)} (h : LoS rs tb k lo) (hk : rs.length = k) (hlo : lo < 0) (hn : NxL L rs c 0 k) (hc : c ≤ tb) (h3 : tb ≤ 68374080) (ho : IsF (fitF L) k fa c O) : IsF (fitF L) k fa tb O := by
  refine ho.gap hc fun i hi j h1 h2 => ?_
  have hn := hn i (by omega) (Nat.zero_le _) hi
  rcases h with ⟨_, h5⟩ | ⟨h5, _⟩
  · cases hr : rs[i]'(by omega) with
    | none => rw [hr] at hn; exact hn j h1 (by omega)
    | some m =>
      rw [hr] at hn
      have := h5 i (by omega) hi m hr
      exact hn.2.2.2 j h1 (by omega)
  · omega
/-- the least one: nothing fits from c up to it -/
theorem LoS.gap {L : List TX} {rs : List (Option Int)} {fa c tb m : Int} {k : Nat} {O : List (Int × Int)} (h : LoS rs tb k m) (hk : rs.length = k) (hm : 0 ≤ m) (hn : NxL L rs c 0 k) (ho : IsF (fitF L) k fa c O) (h3 : tb ≤ 68374080) :
    m < tb ∧ c ≤ m ∧ IsF (fitF L) k fa m O ∧ (∃ q, ∃ h : q < rs.length, rs[q] = some m) ∧ ∀ q (h : q < rs.length) m', rs[q] = some m' → m ≤ m' := by
  rcases h with ⟨h5, _⟩ | ⟨_, h2, ⟨q, hq, hqj, hqe⟩, h4⟩
  · omega
  · have hq' := hn q hq (Nat.zero_le _) hqj
    rw [hqe] at hq'
    refine ⟨h2, hq'.1, ho.gap hq'.1 fun i hi j g1 g2 => ?_, ⟨q, hq, hqe⟩, fun q hq m' hm' => h4 q hq (by omega) m' hm'⟩
    have hn := hn i (by omega) (Nat.zero_le _) hi
    cases hr : rs[i]'(by omega) with
    | none => rw [hr] at hn; exact hn j g1 (by omega)
    | some m' =>
      rw [hr] at hn
      have := h4 i (by omega) hi m' hr
      exact hn.2.2.2 j g1 (by omega)
/-- what the slice's length is -/
def lenV : Value → Nat
  | .slice _ n _ => n
  | _ => 0
/-- a line whose next minute is another one -/
theorem next_skip {f : Int → Bool} {c m : Int} {r : Option Int} (h : LeastAt f c 68374080 r) (hc : c ≤ m) (hm : m < 68374080) (hne : r ≠ some m) (hle : ∀ m', r = some m' → m ≤ m') : f m = false ∧ LeastAt f (m + 1) 68374080 r := by
  cases r with
  | none => exact ⟨h m hc hm, fun j h1 h2 => h j (by omega) h2⟩
  | some m' =>
    have h1 := hle m' rfl
    have h2 : m < m' := by
      rcases Int.lt_or_eq_of_le h1 with h2 | h2
      · exact h2
      · exact absurd (by rw [h2]) hne
    exact ⟨h.2.2.2 m hc h2, by omega, h.2.1, h.2.2.1, fun j g1 g2 => h.2.2.2 j (by omega) g2⟩
end Go.Proofs.YtlhaidibcocooaaGreatDoor

namespace Go.Proofs.YtlhaidibcocooaaGreatDoor
open Go.RowKit

theorem made_zero (k : Nat) : (List.replicate k (some (0 : Int))).map nxV = (madeCells #[.int .i64 0] k).toList := by
  rw [toList_madeCells_one, List.map_replicate]
  rfl

set_option maxRecDepth 100000 in
set_option maxHeartbeats 6400000 in
theorem rfires_any (L : List TX) (b k c : Nat) (fa tb : Int) (w : World) (hL : TL b L w) (hk : L.length = k) (hok : ∀ t ∈ L, t.ok) (h1 : 15778080 ≤ fa) (h2 : fa ≤ tb) (h3 : tb ≤ 68374080) (h4 : fa ≤ 68374079) (hk4 : k ≤ 100) (hT : MaxLenAt w) :
    Calls Tryz.prog 18 #[.slice (some ⟨b, 0, none⟩) k c, .int .i64 fa, .int .i64 tb] w (FiGives L fa tb w) := by
  obtain ⟨R, hR⟩ : ∃ R, FiGives L fa tb w = R := ⟨_, rfl⟩
  rw [hR]
  have HR := Lib.hid hR
  have HL := Lib.hid hL
  have HK := Lib.hid hk
  have HOK := Lib.hid hok
  have HT := Lib.hid hT
  obtain ⟨i0, hi, hz0, hz1, hz2⟩ := info_parts dueInfo
  obtain ⟨j0, hj, hy0, hy1, hy2⟩ := info_parts intInfo'
  have n1 : ¬ fa < 15778080 := by omega
  have n2 : ¬ fa > 68374079 := by omega
  have n3 : ¬ tb < fa := by omega
  have n4 : ¬ tb > 68374080 := by omega
  clear hR hL hk hok hT
  go_enter Tryz.func18, Tryz.ntmps18
  go_wp2_with fail
  go_loopw [23] (fun s23 wr => ∃ i : Nat, s23 = .int .i64 (i : Int) ∧ Hid (i ≤ k) ∧ Hid (∀ j (h : j < L.length), j < i → L[j].er = 0) ∧ Hid (Below w.heap.size w wr)) (fun s23 _ => k - (intOf s23).toNat)
  case atStart => exact ⟨0, rfl, Lib.hid (Nat.zero_le _), Lib.hid (fun j _ h => absurd h (Nat.not_lt_zero _)), Lib.hid (Below.refl _ _)⟩
  case round =>
    obtain ⟨i, rfl, HI, HE, HB⟩ := hrel
    by_cases hlt : i < k
    · have hltz : (i : Int) < (k : Int) := Int.ofNat_lt.2 hlt
      have hiL : i < L.length := by rw [HK.out]; exact hlt
      have hcl := (HL.out.keep HB.out).cells i hiL
      obtain ⟨s, hpr⟩ := L[i].rprints (HOK.out _ (List.getElem_mem hiL))
      have HEt := Lib.hid (fun h : L[i].er ≠ 0 => errL_at L i hiL HE.out h)
      have HEz := Lib.hid (fun (h : L[i].er = 0) j (hj : j < L.length) (hji : j < i + 1) => (show L[j].er = 0 by
        by_cases e : j = i
        · subst e; exact h
        · exact HE.out j hj (by omega)))
      generalize L[i] = t at *
      obtain ⟨a0, a1, a2, a3, a4, b5, b6⟩ := t
      dsimp only at hcl hpr
      generalize TX.er ⟨a0, a1, a2, a3, a4, b5, b6⟩ = er at *
      obtain ⟨c0, c1, c2, c3, c4, c5, c6, c7⟩ := hcl
      have HP := Lib.hid hpr
      clear hpr
      go_wp2_with fail
      refine (HP.out _ (HT.out.keep (HB.out.alloc HB.out.size _))).mono ?_
      rintro e w3 ⟨rfl, hb3⟩
      have HB3 := Lib.hid ((HB.out.alloc HB.out.size _).trans (hb3.mono (by have := HB.out.size; simp; omega)))
      clear c0 c1 c2 c3 c4 c5 c6 c7 hb3 HB
      by_cases her : er = 0
      · subst her
        go_wp2_with fail
        exact ⟨⟨i + 1, by go_num, Lib.hid hlt, Lib.hid (fun j hj hji => HEz.out trivial j hj hji), HB3⟩, by simp [intOf]; omega⟩
      · have hne : (er != 0) = true := by simpa using her
        have HER := Lib.hid her
        clear her
        go_wp2_with fail
        rw [← HR.out]
        exact ⟨HB3.out, .inl ⟨by rw [HEt.out HER.out]; exact HER.out, by rw [HEt.out HER.out]; rfl⟩⟩
    · have hnz : ¬ (i : Int) < (k : Int) := fun h => hlt (Int.ofNat_lt.1 h)
      have HEall := Lib.hid (show ∀ j (h : j < L.length), L[j].er = 0 from fun j hj => HE.out j hj (by have := HK.out; omega))
      clear hlt HE HI
      go_wp2_with (at_make; refine wpList_make_full _ rfl _ _ 30 rfl w.heap.size 3 j0 (.int .i64 0) 1 Tryz.underlying30 hj hy0 hy1 .i64 .i64 _ _ k rfl rfl rfl rfl (by rw [hy2]; omega) (by unfold maxLen; omega) HB.out.size ?_)
      intro w5 hown5 hg5
      have HB5 := Lib.hid (HB.out.grown hg5 HB.out.size (fun k h => by cases h))
      have HN5 := Lib.hid (show NxD w wr.heap.size k (List.replicate k (some 0)) w5 from ⟨by
        rw [made_zero]; exact hown5, by simp⟩)
      clear hown5 hg5 HB
      generalize wr.heap.size = g at *
      go_wp2_with fail
      go_loopw [57] (fun s57 wx => ∃ (i : Nat) (rs : List (Option Int)), s57 = .int .i64 (i : Int) ∧ Hid (i ≤ k) ∧ Hid (NxL L rs fa 0 i) ∧ Hid (NxD w g k rs wx) ∧ Hid (Below w.heap.size w wx)) (fun s57 _ => k - (intOf s57).toNat)
      case atStart => exact ⟨0, _, rfl, Lib.hid (Nat.zero_le _), Lib.hid (fun j _ _ h => absurd h (Nat.not_lt_zero _)), HN5, HB5⟩
      case round =>
        clear HN5 HB5
        obtain ⟨i, rs, rfl, HI, HNL, HN, HB⟩ := hrel
        by_cases hlt : i < k
        · have hltz : (i : Int) < (k : Int) := Int.ofNat_lt.2 hlt
          have hiL : i < L.length := by rw [HK.out]; exact hlt
          have hcl := (HL.out.keep HB.out).cells i hiL
          have hnx := L[i].nexts (HOK.out _ (List.getElem_mem hiL))
          have hF := fitF_at hiL
          generalize L[i] = t at *
          obtain ⟨a0, a1, a2, a3, a4, b5, b6⟩ := t
          dsimp only at hcl hnx
          generalize TX.hit ⟨a0, a1, a2, a3, a4, b5, b6⟩ = f at *
          have HF := Lib.hid hF
          have HNx := Lib.hid hnx
          obtain ⟨c0, c1, c2, c3, c4, c5, c6, c7⟩ := hcl
          have HBa := Lib.hid (HB.out.alloc HB.out.size (.cells #[.int .u64 (a0 : Int), .int .u64 (a1 : Int), .int .u64 (a2 : Int), .int .u64 (a3 : Int), .int .u64 (a4 : Int), .bool b5, .bool b6, .string ⟨#[99]⟩] 43))
          have HNa := Lib.hid (HN.out.keep ((Below.refl _ wr).alloc (Nat.le_refl _) (.cells #[.int .u64 (a0 : Int), .int .u64 (a1 : Int), .int .u64 (a2 : Int), .int .u64 (a3 : Int), .int .u64 (a4 : Int), .bool b5, .bool b6, .string ⟨#[99]⟩] 43)))
          clear hF hnx HB HN
          go_wp2_with fail
          refine (HNx.out fa _ h1 (by omega)).mono ?_
          rintro e w6 ⟨r, hr, rfl, hb6⟩
          have HBb := Lib.hid (HBa.out.trans (hb6.mono HBa.out.size))
          have HNb := Lib.hid (HNa.out.keep hb6)
          have HLe := Lib.hid (show LeastAt (fitF L i) fa 68374080 r by rw [HF.out]; exact hr)
          clear c0 c1 c2 c3 c4 c5 c6 c7 hr hb6 HBa HNa
          have hir : i < rs.length := by rw [HNb.out.len]; exact hlt
          have d0 := HNb.out.at hir
          have dz := HNb.out.fz
          have HNc := Lib.hid (HNb.out.set i r)
          have HBc := Lib.hid (HNb.out.below_set HBb.out i (nxV r))
          unfold nxV at d0 HNc HBc
          generalize hrv : r.getD (-1) = rv at *
          have HRV := Lib.hid hrv
          clear hrv
          go_wp2_with fail
          exact ⟨⟨i + 1, rs.set i r, by go_num, Lib.hid hlt, Lib.hid (HNL.out.set rfl rfl HLe.out), HNc, HBc⟩, by simp [intOf]; omega⟩
        · have hnz2 : ¬ (i : Int) < (k : Int) := fun h => hlt (Int.ofNat_lt.1 h)
          have hik : i = k := by have := HI.out; omega
          have HNk := Lib.hid (show NxL L rs fa 0 k by rw [← hik]; exact HNL.out)
          clear hlt hik HNL
          go_wp2_with fail
          go_loopw [15] (fun s15 wx => ∃ (vo : Value) (O : List (Int × Int)) (rs : List (Option Int)) (c : Int), vo = s15 ∧ Hid (lenV vo = O.length) ∧ Hid (fa ≤ c ∧ c ≤ tb) ∧ Hid (IsF (fitF L) k fa c O) ∧ Hid (NxL L rs c 0 k) ∧ Hid (OutD w vo O wx) ∧ Hid (NxD w g k rs wx) ∧ Hid (vo.ownBlock ≠ some g) ∧ Hid (O.length ≤ 10000)) (fun s15 _ => 10001 - lenV s15)
          case atStart => exact ⟨_, [], rs, fa, rfl, Lib.hid rfl, Lib.hid ⟨Int.le_refl _, h2⟩, Lib.hid (IsF.nil _ _ _), HNk, Lib.hid (OutD.start HB.out), HN, Lib.hid (by simp [Value.ownBlock]), Lib.hid (by simp)⟩
          case round =>
            clear HNk HN HB HI
            obtain ⟨vo, O, rs, c, rfl, hln, HC, HIs, HNL, HO, HN, HFr, HLn⟩ := hrel
            go_wp2_with fail
            generalize hwq : wr = wq at *
            clear hwq
            go_loopw [16, 72] (fun s16 s72 wx => ∃ (j : Nat) (lo : Int), s72 = .int .i64 (j : Int) ∧ s16 = .int .i64 lo ∧ Hid (j ≤ k) ∧ Hid (LoS rs tb j lo) ∧ wx = wq) (fun _ s72 _ => k - (intOf s72).toNat)
            case atStart => exact ⟨0, -1, rfl, rfl, Lib.hid (Nat.zero_le _), Lib.hid (LoS.start _ _), rfl⟩
            case round =>
              obtain ⟨j, lo, rfl, rfl, HJ, HLo, rfl⟩ := hrel
              by_cases hjk : j < k
              · have hjz : (j : Int) < (k : Int) := Int.ofNat_lt.2 hjk
                have hjr : j < rs.length := by rw [HN.out.len]; exact hjk
                have d0 := HN.out.at hjr
                unfold nxV at d0
                cases hr : rs[j] with
                | none =>
                  rw [hr] at d0
                  have HLo2 := Lib.hid (HLo.out.none hjr hr)
                  simp only [Option.getD_none] at d0
                  clear hr hjr
                  go_wp2_with fail
                  exact ⟨⟨j + 1, lo, by go_num, rfl, Lib.hid hjk, HLo2, trivial⟩, by simp [intOf]; omega⟩
                | some m =>
                  rw [hr] at d0
                  simp only [Option.getD_some] at d0
                  have hm0 : 0 ≤ m := by
                    have := HNL.out j hjr (Nat.zero_le _) hjk
                    rw [hr] at this
                    have := this.1
                    have := HC.out.1
                    omega
                  by_cases hmt : m < tb
                  · by_cases hl0 : lo < 0
                    · have HLo2 := Lib.hid (HLo.out.take hjr hr hm0 hmt (.inl hl0))
                      clear hr hjr
                      go_wp2_with fail
                      exact ⟨⟨j + 1, m, by go_num, rfl, Lib.hid hjk, HLo2, trivial⟩, by simp [intOf]; omega⟩
                    · by_cases hml : m < lo
                      · have HLo2 := Lib.hid (HLo.out.take hjr hr hm0 hmt (.inr hml))
                        clear hr hjr
                        go_wp2_with fail
                        exact ⟨⟨j + 1, m, by go_num, rfl, Lib.hid hjk, HLo2, trivial⟩, by simp [intOf]; omega⟩
                      · have HLo2 := Lib.hid (HLo.out.stay hjr hr hl0 hml)
                        clear hr hjr
                        go_wp2_with fail
                        exact ⟨⟨j + 1, lo, by go_num, rfl, Lib.hid hjk, HLo2, trivial⟩, by simp [intOf]; omega⟩
                  · have HLo2 := Lib.hid (HLo.out.big hjr hr (Int.not_lt.1 hmt))
                    clear hr hjr
                    go_wp2_with fail
                    exact ⟨⟨j + 1, lo, by go_num, rfl, Lib.hid hjk, HLo2, trivial⟩, by simp [intOf]; omega⟩
              · have hjz : ¬ (j : Int) < (k : Int) := fun h => hjk (Int.ofNat_lt.1 h)
                have hjk2 : k = j := by have := HJ.out; omega
                subst hjk2
                clear HJ hjk
                by_cases hl0 : lo < 0
                · have HD := Lib.hid (HLo.out.done HN.out.len hl0 HNL.out HC.out.2 h3 HIs.out)
                  go_wp2_with fail
                  rw [← HR.out]
                  exact ⟨HO.out.below, .inr (.inr ⟨errL_zero L HEall.out, O, vo, by rw [HK.out]; exact ⟨HD.out, HLn.out⟩, rfl, HO.out.kp⟩)⟩
                · obtain ⟨hmt, hcm, hIm, ⟨q, hq, hqe⟩, hle⟩ := HLo.out.gap HN.out.len (Int.not_lt.1 hl0) HNL.out HIs.out h3
                  have HMI := Lib.hid (MinI.start hIm)
                  have HLE := Lib.hid (show ∀ q' (h : q' < rs.length), 0 ≤ q' → ∀ m', rs[q'] = some m' → lo ≤ m' from fun q' h _ m' => hle q' h m')
                  have HQ := Lib.hid (show O.length ≤ O.length ∧ (q < 0 → O.length < O.length) ∧ (∀ h : q < rs.length, 0 ≤ q → rs[q] = some lo) from ⟨Nat.le_refl _, fun h => absurd h (Nat.not_lt_zero _), fun _ _ => hqe⟩)
                  have HCM := Lib.hid (show fa ≤ c ∧ c ≤ lo ∧ lo < tb ∧ fa ≤ lo + 1 ∧ lo + 1 ≤ tb from ⟨HC.out.1, hcm, hmt, by have := HC.out.1; omega, by omega⟩)
                  have HQK := Lib.hid (show q < k by have := HN.out.len; omega)
                  have hlo1 : 15778080 ≤ lo := by have := HC.out.1; omega
                  have hlo2 : lo < 68374080 := by omega
                  clear hmt hcm hIm hqe hle hq HLo
                  go_wp2_with fail
                  go_loopw [15, 99] (fun s15 s99 wx => ∃ (i : Nat) (vo1 : Value) (O1 : List (Int × Int)) (rs1 : List (Option Int)), s99 = .int .i64 (i : Int) ∧ vo1 = s15 ∧ Hid (lenV vo1 = O1.length) ∧ Hid (i ≤ k) ∧ Hid (MinI (fitF L) k fa lo i O1) ∧ Hid (NxL L rs1 (lo + 1) 0 i) ∧ Hid (NxL L rs1 c i k) ∧ Hid (∀ q' (h : q' < rs1.length), i ≤ q' → ∀ m', rs1[q'] = some m' → lo ≤ m') ∧ Hid (OutD w vo1 O1 wx) ∧ Hid (NxD w g k rs1 wx) ∧ Hid (vo1.ownBlock ≠ some g) ∧ Hid (O1.length ≤ 10000) ∧ Hid (O.length ≤ O1.length ∧ (q < i → O.length < O1.length) ∧ (∀ h : q < rs1.length, i ≤ q → rs1[q] = some lo))) (fun _ s99 _ => k - (intOf s99).toNat)
                  case atStart => exact ⟨0, vo, O, rs, rfl, rfl, hln, Lib.hid (Nat.zero_le _), HMI, Lib.hid (fun j _ _ h => absurd h (Nat.not_lt_zero _)), HNL, HLE, HO, HN, HFr, HLn, HQ⟩
                  case round =>
                    have HLN := Lib.hid hln.out
                    clear HMI HNL HLE HO HN HFr HLn HQ hln
                    obtain ⟨i, vo1, O1, rs1, rfl, rfl, HL1, HI, HMI, HNA, HNB, HLE, HO, HN, HFr, HLn, HQ⟩ := hrel
                    by_cases hlt : i < k
                    · have hltz : (i : Int) < (k : Int) := Int.ofNat_lt.2 hlt
                      have hir : i < rs1.length := by rw [HN.out.len]; exact hlt
                      have d0 := HN.out.at hir
                      unfold nxV at d0
                      have HLi := Lib.hid (HNB.out i hir (Nat.le_refl _) hlt)
                      by_cases hn : rs1[i] = some lo
                      · rw [hn] at d0
                        simp only [Option.getD_some] at d0
                        have hiL : i < L.length := by rw [HK.out]; exact hlt
                        have HHit := Lib.hid (show fitF L i lo = true by have := HLi.out; rw [hn] at this; exact this.2.2.1)
                        have hnx := L[i].nexts (HOK.out _ (List.getElem_mem hiL))
                        have hF := fitF_at hiL
                        have hTL := fun W (hb : Below w.heap.size w W) => (HL.out.keep hb).cells i hiL
                        generalize L[i] = t at *
                        obtain ⟨a0, a1, a2, a3, a4, b5, b6⟩ := t
                        dsimp only at hTL hnx
                        generalize TX.hit ⟨a0, a1, a2, a3, a4, b5, b6⟩ = f at *
                        have HF := Lib.hid hF
                        have HNx := Lib.hid hnx
                        have HTL := Lib.hid hTL
                        have HM := Lib.hid (show O1.length + 1 ≤ maxLen ∧ (O1.length + 1) * 16 ≤ 140737488355328 by have := HLn.out; unfold maxLen; omega)
                        have HT2 := Lib.hid (HMI.out.take HHit.out)
                        have HIR := Lib.hid hir
                        clear hF hnx hTL hn HLi hir
                        go_wp2_with (at_builtin; refine wpList_append_lies _ rfl _ _ 44 rfl w.heap.size 49 i0 _ 2 16 Tryz.underlying44 hi hz0 hz1 hz2 rfl (by decide) _ O1.length _ rfl (HO.out.alloc _).own _ 1 1 [.int .i64 lo, .int .i64 (i : Int)] rfl rfl (World.news_of_block (heap_alloc_new _ _)) (by intro u hu; simp at hu; rcases hu with rfl | rfl <;> rfl) (by decide) HM.out.1 HM.out.2 (Nat.le_trans HO.out.below.size (by simp)) _ rfl ?_)
                        intro g1 cap w9 hown9 hg9 hat9 hlt9
                        have HO9 := Lib.hid ((HO.out.alloc _).append (p := (lo, (i : Int))) hown9 hg9)
                        have HN9 := Lib.hid ((HN.out.keep ((Below.refl _ _).alloc (Nat.le_refl _) _)).far hg9 (fun e => HFr.out e.symm))
                        have HFr9 := Lib.hid (show (Value.slice (some ⟨g1, 0, none⟩) (O1.length + 1) cap).ownBlock ≠ some g from fun hg => by
                          have hgg : g1 = g := by simpa [Value.ownBlock] using hg
                          subst hgg
                          rcases hat9 with h | h
                          · exact HFr.out h
                          · have := HN.out.lt.2
                            first
                              | omega
                              | (simp at h; omega))
                        clear hown9 hg9 hat9 hlt9 d0
                        by_cases hfu : O1.length = 10000
                        · have hfz : (O1.length : Int) + 1 > 10000 := by omega
                          have HZ := Lib.hid (show Many (fitF L) L.length fa tb 10000 from by
                            rw [HK.out]
                            exact HT2.out.many (by omega) (by have := HCM.out; omega) HCM.out.2.2.1 (by simp; omega))
                          clear hfu
                          go_wp2_with fail
                          rw [← HR.out]
                          exact ⟨HO9.out.below, .inr (.inl ⟨errL_zero L HEall.out, HZ.out, rfl⟩)⟩
                        · have hfz : ¬ (O1.length : Int) + 1 > 10000 := by have := HLn.out; omega
                          have HN2 := Lib.hid (show (O1 ++ [(lo, (i : Int))]).length ≤ 10000 by have := HLn.out; simp; omega)
                          obtain ⟨c0, c1, c2, c3, c4, c5, c6, c7⟩ := HTL.out w9 HO9.out.below
                          clear hfu
                          go_wp2_with fail
                          refine (HNx.out (lo + 1) _ (by omega) (by omega)).mono ?_
                          rintro e w10 ⟨r, hr, rfl, hb10⟩
                          have HNb := Lib.hid (HN9.out.keep hb10)
                          have HOb := Lib.hid (HO9.out.keep hb10)
                          have HLe := Lib.hid (show LeastAt (fitF L i) (lo + 1) 68374080 r by rw [HF.out]; exact hr)
                          have d0 := HNb.out.at HIR.out
                          have dz := HNb.out.fz
                          have HNc := Lib.hid (HNb.out.set i r)
                          have HOc := Lib.hid (HOb.out.other HNb.out.lt.1 HFr9.out i (nxV r))
                          unfold nxV at d0 HNc HOc
                          generalize hrv : r.getD (-1) = rv at *
                          clear hrv c0 c1 c2 c3 c4 c5 c6 c7 hr hb10
                          go_wp2_with fail
                          refine ⟨⟨i + 1, _, O1 ++ [(lo, (i : Int))], rs1.set i r, by go_num, rfl, Lib.hid (by simp [lenV]), Lib.hid hlt, HT2, Lib.hid (HNA.out.set rfl rfl HLe.out), Lib.hid ((HNB.out.part (Nat.le_succ _) (Nat.le_refl _)).other (Nat.lt_succ_self _) _), Lib.hid ?_, HOc, HNc, HFr9, HN2, Lib.hid ?_⟩, by simp [intOf]; omega⟩
                          · intro q' h hq' m' hm'
                            rw [List.length_set] at h
                            rw [List.getElem_set_ne (by omega)] at hm'
                            exact HLE.out q' h (by omega) m' hm'
                          · have hQ := HQ.out
                            refine ⟨by simp; omega, fun _ => by simp; omega, fun h hq' => ?_⟩
                            rw [List.length_set] at h
                            rw [List.getElem_set_ne (by omega)]
                            exact hQ.2.2 h (by omega)
                      · obtain ⟨hf, hnl⟩ := next_skip HLi.out HCM.out.2.1 hlo2 hn (fun m' hm' => HLE.out i hir (Nat.le_refl _) m' hm')
                        have HS2 := Lib.hid (HMI.out.skip hf)
                        have HNA2 := Lib.hid (show NxL L rs1 (lo + 1) 0 (i + 1) from fun j' hj' g1 g2 => by
                          by_cases e : j' = i
                          · subst e; exact hnl
                          · exact HNA.out j' hj' g1 (by omega))
                        have HQ2 := Lib.hid (show O.length ≤ O1.length ∧ (q < i + 1 → O.length < O1.length) ∧ (∀ h : q < rs1.length, i + 1 ≤ q → rs1[q] = some lo) from by
                          have hQ := HQ.out
                          refine ⟨hQ.1, fun h => ?_, fun h hq' => hQ.2.2 h (by omega)⟩
                          by_cases e : q = i
                          · subst e; exact absurd (hQ.2.2 hir (Nat.le_refl _)) hn
                          · exact hQ.2.1 (by omega))
                        have hne : (rs1[i].getD (-1) == lo) = false := by
                          rw [beq_eq_false_iff_ne]
                          cases hr : rs1[i] with
                          | none => simp only [Option.getD_none]; omega
                          | some m' => simp only [Option.getD_some]; intro e; exact hn (by rw [hr, e])
                        generalize rs1[i].getD (-1) = n at *
                        clear hf hnl hn HLi hir
                        go_wp2_with fail
                        exact ⟨⟨i + 1, vo1, O1, rs1, by go_num, rfl, HL1, Lib.hid hlt, HS2, HNA2, Lib.hid (HNB.out.part (Nat.le_succ _) (Nat.le_refl _)), Lib.hid (fun q' h hq' => HLE.out q' h (by omega)), HO, HN, HFr, HLn, HQ2⟩, by simp [intOf]; omega⟩
                    · have hnz3 : ¬ (i : Int) < (k : Int) := fun h => hlt (Int.ofNat_lt.1 h)
                      have hik : k = i := by have := HI.out; omega
                      subst hik
                      have HD := Lib.hid (HMI.out.done (by have := HCM.out; omega))
                      have HML := Lib.hid (show 10001 - lenV vo1 < 10001 - lenV vo by
                        have := HQ.out.2.1 HQK.out
                        have := HLn.out
                        rw [HL1.out, HLN.out]
                        omega)
                      clear hlt
                      go_wp2_with fail
                      exact ⟨⟨vo1, O1, rs1, lo + 1, rfl, HL1, Lib.hid HCM.out.2.2.2, HD, HNA, HO, HN, HFr, HLn⟩, HML.out⟩
end Go.Proofs.YtlhaidibcocooaaGreatDoor

namespace Go.Proofs.YtlhaidibcocooaaGreatDoor
open Go.RowKit

theorem KP.rows {w : World} {A : Option Addr} {n c : Nat} {O : List (Int × Int)} (h : KP w (.slice A n c) O) : n = O.length ∧ (A = none → c = 0) ∧ (0 < n → ∃ b off, A = some ⟨b, off, none⟩ ∧ PrC b off O w) := by
  obtain ⟨A', c', e, _, hA, h⟩ := h
  injection e with e1 e2 e3
  subst e1 e2 e3
  exact ⟨rfl, hA, h⟩
set_option maxRecDepth 100000 in
set_option maxHeartbeats 1600000 in
theorem equal_same (O : List (Int × Int)) (v1 v2 : Value) (w : World) (h1 : KP w v1 O) (h2 : KP w v2 O) (hn : O.length ≤ 20000) :
    Calls Tryz.prog 19 #[v1, v2] w fun e w' => e = .returned (.bool true) ∧ Below w.heap.size w w' := by
  obtain ⟨A1, c1, rfl, _, _, g1⟩ := h1
  obtain ⟨A2, c2, rfl, _, _, g2⟩ := h2
  obtain ⟨n, hnl⟩ : ∃ n, O.length = n := ⟨_, rfl⟩
  rw [hnl] at g1 g2 hn ⊢
  rcases Nat.eq_zero_or_pos n with h0 | h0
  · subst h0
    clear g1 g2 hnl
    go_enter Tryz.func19, Tryz.ntmps19
    go_wp2_with fail
    refine wp_loop_rounds 3 ?_
    rw [rounds_succ]
    go_wp2_with fail
    go_ret
    exact ⟨rfl, Below.refl _ _⟩
  · obtain ⟨b1, o1, rfl, l1, p1⟩ := g1 h0
    obtain ⟨b2, o2, rfl, l2, p2⟩ := g2 h0
    have HP1 := Lib.hid p1
    have HP2 := Lib.hid p2
    have HL := Lib.hid hnl
    have HLt := Lib.hid (And.intro l1 l2)
    clear g1 g2 hnl p1 p2 l1 l2
    go_enter Tryz.func19, Tryz.ntmps19
    go_wp2_with fail
    go_loopw [13] (fun s13 wr => ∃ i : Nat, s13 = .int .i64 (i : Int) ∧ Hid (i ≤ n) ∧ Hid (Below w.heap.size w wr)) (fun s13 _ => n - (intOf s13).toNat)
    case atStart => exact ⟨0, rfl, Lib.hid (Nat.zero_le _), Lib.hid (Below.refl _ _)⟩
    case round =>
      obtain ⟨i, rfl, HI, HB⟩ := hrel
      by_cases hlt : i < n
      · have hltz : (i : Int) < (n : Int) := Int.ofNat_lt.2 hlt
        have hiO : i < O.length := by rw [HL.out]; exact hlt
        have k1 : wr.cell? ⟨b1, o1 + i * 2, none⟩ = some (.int .i64 O[i].1) := (HB.out.cell (p := ⟨b1, o1 + i * 2, none⟩) HLt.out.1).trans (HP1.out i hiO).1
        have k2 : wr.cell? ⟨b1, o1 + i * 2 + 1, none⟩ = some (.int .i64 O[i].2) := (HB.out.cell (p := ⟨b1, o1 + i * 2 + 1, none⟩) HLt.out.1).trans (HP1.out i hiO).2
        have k3 : wr.cell? ⟨b2, o2 + i * 2, none⟩ = some (.int .i64 O[i].1) := (HB.out.cell (p := ⟨b2, o2 + i * 2, none⟩) HLt.out.2).trans (HP2.out i hiO).1
        have k4 : wr.cell? ⟨b2, o2 + i * 2 + 1, none⟩ = some (.int .i64 O[i].2) := (HB.out.cell (p := ⟨b2, o2 + i * 2 + 1, none⟩) HLt.out.2).trans (HP2.out i hiO).2
        generalize O[i] = p at *
        obtain ⟨x, y⟩ := p
        dsimp only at k1 k2 k3 k4
        clear hiO
        go_wp2_with fail
        go_quiet (fail)
        go_wp2_with fail
        exact ⟨⟨i + 1, by go_num, Lib.hid hlt, Lib.hid ⟨HB.out.os, HB.out.tape, HB.out.output, HB.out.size, HB.out.block⟩⟩, by simp [intOf]; omega⟩
      · have hnz : ¬ (i : Int) < (n : Int) := fun h => hlt (Int.ofNat_lt.1 h)
        clear hlt
        go_wp2_with fail
        go_ret
        exact ⟨rfl, HB.out⟩
set_option maxRecDepth 100000 in
set_option maxHeartbeats 1600000 in
theorem grow_nil (n : Nat) (h0 : 0 < n) (hn : n ≤ 40000) (w : World) :
    Calls Tryz.prog 45 #[.slice none 0 0, .int .i64 (n : Int)] w fun e w' => ∃ v, e = .returned v ∧ w'.ownsRow w.heap.size 49 2 v 0 [] ∧ Below w.heap.size w w' := by
  obtain ⟨i0, hi, hz0, hz1, hz2⟩ := info_parts dueInfo
  have hrz : ∀ ty, (Builtin.append_ #[44, 3] ty #[.slice none 0 0, .int .i64 (n : Int)]).run Tryz.prog w = .ok (.slice (some ⟨w.heap.size, 0, none⟩) n (grownCap w n 0 49)) (w.drew.alloc (.cells (Builtin.zeroCells (Value.agg #[.int .i64 0, .int .i64 0]).cells n ++ Builtin.zeroCells (Value.agg #[.int .i64 0, .int .i64 0]).cells (grownCap w n 0 49 - n)) 49)) := fun ty =>
    Lib.run_append_nil_zeros w 44 3 ty 49 i0 _ .i64 .i64 Tryz.underlying44 Tryz.underlying3 hi hz0 n h0 (by omega) (by omega) (by rw [hz2]; omega)
  have hGn : n ≤ grownCap w n 0 49 := grownCap_ge w _ _ _
  have hG63 := grownCap_le_maxLen w n 0 49 (by unfold maxLen; omega)
  obtain ⟨G, hG⟩ : ∃ G, G = grownCap w n 0 49 := ⟨_, rfl⟩
  rw [← hG] at hrz hGn hG63
  have HOwn := Lib.hid (World.ownsRow_made (base := w.heap.size) (e := 49) (size := 2) w.drew (Builtin.zeroCells (Value.agg #[.int .i64 0, .int .i64 0]).cells n ++ Builtin.zeroCells (Value.agg #[.int .i64 0, .int .i64 0]).cells (G - n)) G (Nat.le_refl _) hG63 (by
    rw [Array.size_append, size_zeroCells, size_zeroCells]
    show n * 2 + (G - n) * 2 = G * 2
    omega))
  have hn0 : ¬ ((n : Int) < 0) := by omega
  have hn1 : (n : Int) > 0 := by omega
  have hG0 : G ≤ 9223372036854775807 := by unfold maxLen at hG63; omega
  clear hG hG63
  go_enter Tryz.func45, Tryz.ntmps45
  go_wp2_with (at_builtin; refine Lib.wpList_append_run _ rfl _ _ _ _ rfl _ _ rfl rfl _ _ (hrz _) ?_)
  all_goals (go_ret; exact ⟨_, rfl, HOwn.out, ((Below.refl _ w).drew).alloc (Nat.le_refl _) _⟩)
theorem prc_cells {b off : Nat} {O : List (Int × Int)} {w : World} (hp : ∀ j (h : j < O.length), w.cell? ⟨b, off + j * 2, none⟩ = some (.int .i64 O[j].1) ∧ w.cell? ⟨b, off + j * 2 + 1, none⟩ = some (.int .i64 O[j].2)) (j : Nat) (u : Value) (hu : (prC O)[j]? = some u) : w.cell? ((⟨b, off, none⟩ : Addr).add j) = some u := by
  have hj : j < O.length * 2 := by rw [← prC_len]; exact (List.getElem?_eq_some_iff.1 hu).1
  have hq := hp (j / 2) (by omega)
  have he := prC_at O (j / 2) (by omega)
  rw [WideShapes.add_plain]
  rcases Nat.mod_two_eq_zero_or_one j with h0 | h0
  · have : j / 2 * 2 = j := by omega
    rw [this] at hq he
    rw [hq.1, ← hu, he.1]
  · have : j / 2 * 2 + 1 = j := by omega
    rw [this] at he
    rw [show off + j / 2 * 2 + 1 = off + j by omega] at hq
    rw [hq.2, ← hu, he.2]
theorem kp_cells {ad : Addr} {O : List (Int × Int)} {w : World} (h : 0 < O.length → ∃ b off, some ad = some ⟨b, off, none⟩ ∧ PrC b off O w) (j : Nat) (u : Value) (hu : (prC O)[j]? = some u) : w.cell? (ad.add j) = some u := by
  have hj : j < O.length * 2 := by rw [← prC_len]; exact (List.getElem?_eq_some_iff.1 hu).1
  obtain ⟨b, off, e, _, hp⟩ := h (by omega)
  have e2 : ad = ⟨b, off, none⟩ := Option.some.inj e
  rw [e2]
  exact prc_cells hp j u hu
/-- an append of a list to what is owned -/
theorem app_kp {w : World} {ops : Array Oper} {rest : List Oper} {o : Oper} {a : Act} {Q : Exit → Act → World → Prop} (hgd : o.guard = none) (s x : Operand)
    (ho : o.op = .call { callee := .builtin .append, args := #[s, x], argTypes := #[44, 44] })
    (base : Nat) (v : Value) (n : Nat) (xs : List Value) (hs : a.eval s = v) (hown : w.ownsRow base 49 2 v n xs) (u : Value) (O : List (Int × Int)) (hx : a.eval x = u) (hk : KP w u O)
    (h63 : n + O.length ≤ 40000) (hbase : base ≤ w.heap.size)
    (h : ∀ v' w', w'.ownsRow base 49 2 v' (n + O.length) (xs ++ prC O) → w.grownBy w' v.ownBlock → wpList Tryz.prog ops Q rest (a.put o.dst v') w') : wpList Tryz.prog ops Q (o :: rest) a w := by
  obtain ⟨i0, hi, hz0, hz1, hz2⟩ := info_parts dueInfo
  obtain ⟨A, c, rfl, _, hA, hc⟩ := hk
  cases A with
  | none =>
    have hc0 := hA rfl
    subst hc0
    have hO : O.length = 0 := by
      rcases Nat.eq_zero_or_pos O.length with h0 | h0
      · exact h0
      · obtain ⟨_, _, e, _⟩ := hc h0
        cases e
    have hO2 : O = [] := List.length_eq_zero_iff.1 hO
    subst hO2
    exact wpList_append_own_none hgd s x 44 ho base 49 i0 2 Tryz.underlying44 hi v n xs hs hown hx (h v w (by simpa [prC] using hown) ⟨rfl, rfl, rfl, Nat.le_refl _, fun _ _ _ => rfl⟩)
  | some ad =>
    exact wpList_append_own _ hgd s x 44 ho base 49 i0 (.agg #[.int .i64 0, .int .i64 0]) 2 16 Tryz.underlying44 hi hz0 hz1 hz2 rfl (by decide) v n xs hs hown ad O.length c (prC O) hx (prC_len O) (kp_cells hc) (prC_one O) (by unfold maxLen; omega) (by omega) hbase (fun v' w' h1 h2 _ => h v' w' h1 h2)
theorem grow_zero (w : World) :
    Calls Tryz.prog 45 #[.slice none 0 0, .int .i64 0] w fun e w' => e = .returned (.slice none 0 0) ∧ w = w' := by
  go_enter Tryz.func45, Tryz.ntmps45
  go_wp2_with fail
  go_ret
  exact ⟨rfl, rfl⟩
theorem grow_any (n : Nat) (hn : n ≤ 40000) (w : World) :
    Calls Tryz.prog 45 #[.slice none 0 0, .int .i64 (n : Int)] w fun e w' => ∃ v, e = .returned v ∧ w'.ownsRow w.heap.size 49 2 v 0 [] ∧ Below w.heap.size w w' := by
  rcases Nat.eq_zero_or_pos n with h0 | h0
  · subst h0
    refine (grow_zero w).mono ?_
    rintro e w' ⟨rfl, rfl⟩
    exact ⟨_, rfl, World.ownsRow_nil _ _ _ _, Below.refl _ _⟩
  · exact grow_nil n h0 hn w
set_option maxRecDepth 100000 in
set_option maxHeartbeats 3200000 in
theorem concat_any (O1 O2 : List (Int × Int)) (v1 v2 : Value) (g : Nat) (w : World) (hg : BoxC g #[v1, v2] w) (h1 : KP w v1 O1) (h2 : KP w v2 O2) (hn1 : O1.length ≤ 10000) (hn2 : O2.length ≤ 10000) :
    Calls Tryz.prog 20 #[.slice (some ⟨g, 0, none⟩) 2 2] w fun e w' => ∃ v, e = .returned v ∧ KP w' v (O1 ++ O2) ∧ Below w.heap.size w w' := by
  have HK1 := Lib.hid h1
  have HK2 := Lib.hid h2
  obtain ⟨A1, c1, rfl, q1, _, _⟩ := h1
  obtain ⟨A2, c2, rfl, q2, _, _⟩ := h2
  have HG := Lib.hid hg
  obtain ⟨n1, hl1⟩ : ∃ n1, O1.length = n1 := ⟨_, rfl⟩
  obtain ⟨n2, hl2⟩ : ∃ n2, O2.length = n2 := ⟨_, rfl⟩
  rw [hl1] at HK1 HG hn1
  rw [hl2] at HK2 HG hn2
  have HL := Lib.hid (And.intro hl1 hl2)
  have cg := HG.out.cells
  clear hg q1 q2 hl1 hl2
  go_enter Tryz.func20, Tryz.ntmps20
  go_wp2_with fail
  refine wp_loop_rounds 3 ?_
  rw [rounds_succ]
  go_wp2_with fail
  rw [rounds_succ]
  go_wp2_with fail
  rw [rounds_succ]
  go_wp2_with fail
  rw [show (n1 : Int) + (n2 : Int) = ((n1 + n2 : Nat) : Int) by omega]
  refine (grow_any (n1 + n2) (by omega) w).mono ?_
  rintro e w2 ⟨v, rfl, hown, hb⟩
  have HO := Lib.hid hown
  have HB := Lib.hid hb
  have HG2 := Lib.hid (HG.out.keep hb)
  clear cg hown hb
  have cg := HG2.out.cells
  go_wp2_with fail
  refine wp_loop_rounds 3 ?_
  rw [rounds_succ]
  go_wp2_with (at_builtin; refine app_kp rfl _ _ rfl w.heap.size v 0 [] rfl HO.out _ O1 rfl (HK1.out.keep HB.out) (by have := HL.out; omega) HB.out.size ?_)
  intro v3 w3 hown3 hg3
  have HB3 := Lib.hid (HB.out.grown hg3 HB.out.size (fun k hk => (HO.out.lt k hk).1))
  have HO3 := Lib.hid hown3
  have HG3 := Lib.hid (HG.out.keep HB3.out)
  clear cg hown3 hg3
  have cg := HG3.out.cells
  go_wp2_with fail
  rw [rounds_succ]
  go_wp2_with (at_builtin; refine app_kp rfl _ _ rfl w.heap.size v3 _ _ rfl HO3.out _ O2 rfl (HK2.out.keep HB3.out) (by have := HL.out; omega) HB3.out.size ?_)
  intro v4 w4 hown4 hg4
  have HB4 := Lib.hid (HB3.out.grown hg4 HB3.out.size (fun k hk => (HO3.out.lt k hk).1))
  have HO4 := Lib.hid hown4
  clear cg hown4 hg4
  go_wp2_with fail
  rw [rounds_succ]
  go_wp2_with fail
  go_ret
  refine ⟨_, rfl, ?_, HB4.out⟩
  have := HO4.out
  rw [show prC O1 ++ prC O2 = prC (O1 ++ O2) by simp [prC]] at this
  exact KP.of_own this
end Go.Proofs.YtlhaidibcocooaaGreatDoor

namespace Go.Proofs.YtlhaidibcocooaaGreatDoor
open Go.RowKit

theorem nil_gives (fa tb : Int) (w w' : World) (hb : Below w.heap.size w w') : FiGives [] fa tb w (.returned (.tuple #[.slice none 0 0, .int .i64 0])) w' := by
  refine ⟨hb, .inr (.inr ⟨rfl, [], .slice none 0 0, ⟨⟨List.Pairwise.nil, fun p => ⟨fun h => (by cases h), ?_⟩⟩, by simp⟩, rfl, ?_⟩)⟩
  · rintro ⟨_, _, i, hi, _⟩
    exact absurd hi (Nat.not_lt_zero _)
  · exact ⟨none, 0, rfl, Nat.le_refl _, fun _ => rfl, fun h => absurd h (Nat.lt_irrefl _)⟩
set_option maxRecDepth 100000 in
set_option maxHeartbeats 3200000 in
theorem fires_nil (fa tb : Int) (w : World) (h1 : 15778080 ≤ fa) (h2 : fa ≤ tb) (h3 : tb ≤ 68374080) (h4 : fa ≤ 68374079) :
    Calls Tryz.prog 17 #[.slice none 0 0, .int .i64 fa, .int .i64 tb] w (FiGives [] fa tb w) := by
  have HG := Lib.hid (nil_gives fa tb w)
  generalize FiGives [] fa tb w = R at *
  go_enter Tryz.func17, Tryz.ntmps17
  go_wp2_with fail
  refine wp_loop_rounds 3 ?_
  rw [rounds_succ]
  go_wp2_with fail
  refine (inYears_any fa _).mono ?_
  rintro e w3 ⟨rfl, hb3⟩
  have hyd : decide (15778080 ≤ fa ∧ fa ≤ 68374079) = true := decide_eq_true ⟨h1, h4⟩
  rw [hyd]
  have HB3 := Lib.hid hb3
  clear hyd hb3
  go_wp2_with fail
  refine (begin_2100 _).mono ?_
  rintro e w4 ⟨rfl, hb4⟩
  have HB4 := Lib.hid (HB3.out.trans (hb4.mono HB3.out.size))
  clear hb4 HB3
  go_wp2_with fail
  refine (bwithin_any tb fa 68374080 _).mono ?_
  rintro e w5 ⟨rfl, rfl⟩
  have hyd : decide (fa ≤ tb ∧ tb ≤ 68374080) = true := decide_eq_true ⟨h2, h3⟩
  rw [hyd]
  clear hyd
  go_wp2_with fail
  refine wp_loop_rounds 3 ?_
  rw [rounds_succ]
  go_wp2_with fail
  refine (sort_nil _).mono ?_
  rintro e w6 ⟨rfl, rfl⟩
  go_wp2_with fail
  exact HG.out _ HB4.out
set_option maxRecDepth 100000 in
set_option maxHeartbeats 3200000 in
theorem rfires_nil (fa tb : Int) (w : World) (h1 : 15778080 ≤ fa) (h2 : fa ≤ tb) (h3 : tb ≤ 68374080) (h4 : fa ≤ 68374079) :
    Calls Tryz.prog 18 #[.slice none 0 0, .int .i64 fa, .int .i64 tb] w (FiGives [] fa tb w) := by
  have HG := Lib.hid (nil_gives fa tb w)
  generalize FiGives [] fa tb w = R at *
  obtain ⟨j0, hj, hy0, hy1, hy2⟩ := info_parts intInfo'
  have n1 : ¬ fa < 15778080 := by omega
  have n2 : ¬ fa > 68374079 := by omega
  have n3 : ¬ tb < fa := by omega
  have n4 : ¬ tb > 68374080 := by omega
  go_enter Tryz.func18, Tryz.ntmps18
  go_wp2_with fail
  refine wp_loop_rounds 3 ?_
  rw [rounds_succ]
  go_wp2_with (at_make; refine wpList_make_full _ rfl _ _ 30 rfl w.heap.size 3 j0 (.int .i64 0) 1 Tryz.underlying30 hj hy0 hy1 .i64 .i64 _ _ 0 rfl rfl rfl rfl (by omega) (by unfold maxLen; omega) (Nat.le_refl _) ?_)
  intro w5 _ hg5
  have HB5 := Lib.hid ((Below.refl _ w).grown hg5 (Nat.le_refl _) (fun k h => by cases h))
  clear hg5
  generalize w.heap.size = g at *
  go_wp2_with fail
  refine wp_loop_rounds 3 ?_
  rw [rounds_succ]
  go_wp2_with fail
  refine wp_loop_rounds 3 ?_
  rw [rounds_succ]
  go_wp2_with fail
  refine wp_loop_rounds 3 ?_
  rw [rounds_succ]
  go_wp2_with fail
  exact HG.out _ HB5.out
/-- v is a slice of these timed lines -/
def LV (v : Value) (L : List TX) (w : World) : Prop := (v = .slice none 0 0 ∧ L = []) ∨ ∃ b k c, v = .slice (some ⟨b, 0, none⟩) k c ∧ L.length = k ∧ TL b L w
theorem LV.keep {v : Value} {L : List TX} {w w' : World} (h : LV v L w) (hb : Below w.heap.size w w') : LV v L w' := by
  rcases h with h | ⟨b, k, c, h1, h2, h3⟩
  · exact .inl h
  · exact .inr ⟨b, k, c, h1, h2, h3.keep hb⟩
theorem fires_v (v : Value) (L : List TX) (fa tb : Int) (w : World) (hv : LV v L w) (hok : ∀ t ∈ L, t.ok) (hl : L.length ≤ 100) (h1 : 15778080 ≤ fa) (h2 : fa ≤ tb) (h3 : tb ≤ 68374080) (h4 : fa ≤ 68374079) (hT : DebAt w) :
    Calls Tryz.prog 17 #[v, .int .i64 fa, .int .i64 tb] w (FiGives L fa tb w) := by
  rcases hv with ⟨rfl, rfl⟩ | ⟨b, k, c, rfl, hk, ht⟩
  · exact fires_nil fa tb w h1 h2 h3 h4
  · exact fires_any L b k c fa tb w ht hk hok h1 h2 h3 h4 (by omega) hT
theorem rfires_v (v : Value) (L : List TX) (fa tb : Int) (w : World) (hv : LV v L w) (hok : ∀ t ∈ L, t.ok) (hl : L.length ≤ 100) (h1 : 15778080 ≤ fa) (h2 : fa ≤ tb) (h3 : tb ≤ 68374080) (h4 : fa ≤ 68374079) (hT : MaxLenAt w) :
    Calls Tryz.prog 18 #[v, .int .i64 fa, .int .i64 tb] w (FiGives L fa tb w) := by
  rcases hv with ⟨rfl, rfl⟩ | ⟨b, k, c, rfl, hk, ht⟩
  · exact rfires_nil fa tb w h1 h2 h3 h4
  · exact rfires_any L b k c fa tb w ht hk hok h1 h2 h3 h4 (by omega) hT
end Go.Proofs.YtlhaidibcocooaaGreatDoor

namespace Go.Proofs.YtlhaidibcocooaaGreatDoor
open Go.RowKit

/-- both Fires of the same stretch -/
theorem fi_pair {L : List TX} {fa tb : Int} {w1 w1' w2 w2' : World} {e1 e2 : Ending} (h1 : FiGives L fa tb w1 e1 w1') (h2 : FiGives L fa tb w2 e2 w2') :
    (∃ er : Int, er ≠ 0 ∧ e1 = .returned (.tuple #[.slice none 0 0, .int .i64 er]) ∧ e2 = .returned (.tuple #[.slice none 0 0, .int .i64 er])) ∨
    (errL L = 0 ∧ ∃ O v1 v2, FRes (fitF L) L.length fa tb (some O) ∧ e1 = .returned (.tuple #[v1, .int .i64 0]) ∧ e2 = .returned (.tuple #[v2, .int .i64 0]) ∧ KP w1' v1 O ∧ KP w2' v2 O) := by
  rcases h1.2 with ⟨a1, a2⟩ | ⟨a1, a2, a3⟩ | ⟨a1, O, v, a2, a3, a4⟩ <;> rcases h2.2 with ⟨b1, b2⟩ | ⟨b1, b2, b3⟩ | ⟨b1, O', v', b2, b3, b4⟩
  · exact .inl ⟨_, a1, a2, b2⟩
  · exact absurd b1 a1
  · exact absurd b1 a1
  · exact absurd a1 b1
  · exact .inl ⟨24, by decide, a3, b3⟩
  · exact absurd (a2.unique b2) (by simp)
  · exact absurd a1 b1
  · exact absurd (a2.unique b2) (by simp)
  · have e := a2.unique b2
    injection e with e
    subst e
    exact .inr ⟨a1, O, v, v', a2, a3, b3, a4, b4⟩
theorem fi_forms {L : List TX} {fa tb : Int} {w w' : World} {e : Ending} (h : FiGives L fa tb w e w') : ∃ (v : Value) (er : Int), e = .returned (.tuple #[v, .int .i64 er]) := by
  rcases h.2 with ⟨_, a2⟩ | ⟨_, _, a3⟩ | ⟨_, O, v, _, a3, _⟩
  · exact ⟨_, _, a2⟩
  · exact ⟨_, _, a3⟩
  · exact ⟨_, _, a3⟩
theorem tup_inj {v v' : Value} {n n' : Int} (h : Ending.returned (.tuple #[v, .int .i64 n]) = .returned (.tuple #[v', .int .i64 n'])) : v = v' ∧ n = n' := by
  injection h with h
  injection h with h
  simpa using h
theorem kp_form {w : World} {v : Value} {O : List (Int × Int)} (h : KP w v O) : ∃ A n c, v = .slice A n c := by
  obtain ⟨A, c, rfl, _⟩ := h
  exact ⟨A, _, c, rfl⟩
theorem kp_nil (w : World) : KP w (.slice none 0 0) [] := ⟨none, 0, rfl, Nat.le_refl _, fun _ => rfl, fun h => absurd h (Nat.lt_irrefl _)⟩
/-- a part of a stretch that is not too full -/
theorem fi_some {L : List TX} {fa tb fa' tb' : Int} {O : List (Int × Int)} {w w' : World} {e : Ending} (h0 : errL L = 0) (hO : FRes (fitF L) L.length fa tb (some O)) (h1 : fa ≤ fa') (h2 : tb' ≤ tb) (h : FiGives L fa' tb' w e w') :
    ∃ x v, FRes (fitF L) L.length fa' tb' (some x) ∧ e = .returned (.tuple #[v, .int .i64 0]) ∧ KP w' v x := by
  rcases h.2 with ⟨a1, _⟩ | ⟨_, a2, _⟩ | ⟨_, x, v, a2, a3, a4⟩
  · exact absurd h0 a1
  · exact ((Many.wide a2 h1 h2).no hO.1 hO.2).elim
  · exact ⟨x, v, a2, a3, a4⟩
/-- slices of numbers that came in -/
def RawsN (w : World) (A : Option Addr) (n c : Nat) : Prop := n ≤ c ∧ n ≤ 9223372036854775807 ∧ (0 < n → ∃ g off, A = some ⟨g, off, none⟩ ∧ g < w.heap.size ∧ ∀ j, j < n → ∃ A' n' c', w.cell? ⟨g, off + j, none⟩ = some (.slice A' n' c') ∧ RawN w A' n' c')
def tlC (L : List TX) : List Value := L.flatMap fun t => [.int .u64 (t.a0 : Int), .int .u64 (t.a1 : Int), .int .u64 (t.a2 : Int), .int .u64 (t.a3 : Int), .int .u64 (t.a4 : Int), .bool t.b5, .bool t.b6, .string ⟨#[99]⟩]
theorem tlC_len : ∀ (L : List TX), (tlC L).length = L.length * 8
  | [] => rfl
  | t :: L => by
    rw [tlC, List.flatMap_cons, List.length_append, ← tlC, tlC_len L]
    simp only [List.length_cons, List.length_nil]
    omega
theorem tlC_at : ∀ (L : List TX) (i : Nat) (h : i < L.length), (tlC L)[i * 8]? = some (.int .u64 (L[i].a0 : Int)) ∧ (tlC L)[i * 8 + 1]? = some (.int .u64 (L[i].a1 : Int)) ∧ (tlC L)[i * 8 + 2]? = some (.int .u64 (L[i].a2 : Int)) ∧ (tlC L)[i * 8 + 3]? = some (.int .u64 (L[i].a3 : Int)) ∧ (tlC L)[i * 8 + 4]? = some (.int .u64 (L[i].a4 : Int)) ∧ (tlC L)[i * 8 + 5]? = some (.bool L[i].b5) ∧ (tlC L)[i * 8 + 6]? = some (.bool L[i].b6) ∧ (tlC L)[i * 8 + 7]? = some (.string ⟨#[99]⟩)
  | t :: L, 0, _ => ⟨rfl, rfl, rfl, rfl, rfl, rfl, rfl, rfl⟩
  | t :: L, i + 1, h => by
    have := tlC_at L i (by simpa using h)
    rw [show (i + 1) * 8 = i * 8 + 8 by omega]
    exact this
theorem timedInfo : (Tryz.prog.info? 43).map (fun i => (i.zero, i.size, i.bytes)) = some (some (.agg #[.int .u64 0, .int .u64 0, .int .u64 0, .int .u64 0, .int .u64 0, .bool false, .bool false, .string ⟨#[]⟩]), 8, 64) := by kernel_rfl
theorem two_new (w : World) (o1 o2 : Obj) : ((w.alloc o1).alloc o2).heap[w.heap.size + 1]? = some o2 := by
  have := heap_alloc_new (w.alloc o1) o2
  simpa using this
/-- the timed lines that are being built -/
structure OutT (w0 : World) (vo : Value) (L : List TX) (wx : World) : Prop where
  own : wx.ownsRow w0.heap.size 43 8 vo L.length (tlC L)
  below : Below w0.heap.size w0 wx
theorem OutT.keep {w0 wx w' : World} {vo : Value} {L : List TX} (h : OutT w0 vo L wx) (hb : Below wx.heap.size wx w') : OutT w0 vo L w' :=
  ⟨h.own.kept (row := none) ⟨hb.os, hb.tape, hb.output, hb.size, fun k hk _ => hb.block k hk⟩ (Classical.em _), h.below.trans (hb.mono h.below.size)⟩
theorem OutT.lv {w0 wx : World} {vo : Value} {L : List TX} (h : OutT w0 vo L wx) : LV vo L wx := by
  rcases h.own.2 with ⟨rfl, h0⟩ | ⟨g, cap, cur, rfl, hr⟩
  · exact .inl ⟨rfl, List.length_eq_zero_iff.1 h0⟩
  · refine .inr ⟨g, L.length, cap, rfl, rfl, ⟨(h.own.lt g rfl).2, fun i hi => ?_⟩⟩
    obtain ⟨h0, h1, h2, h3, h4, h5, h6, h7⟩ := tlC_at L i hi
    exact ⟨(h.own.cellAt _ (by omega)).trans h0, (h.own.cellAt _ (by omega)).trans h1, (h.own.cellAt _ (by omega)).trans h2, (h.own.cellAt _ (by omega)).trans h3, (h.own.cellAt _ (by omega)).trans h4, (h.own.cellAt _ (by omega)).trans h5, (h.own.cellAt _ (by omega)).trans h6, (h.own.cellAt _ (by omega)).trans h7⟩
theorem OutT.append {w0 wx w' : World} {vo v' : Value} {L : List TX} {t : TX} (h : OutT w0 vo L wx) (hown : w'.ownsRow w0.heap.size 43 8 v' (L.length + 1) (tlC L ++ [.int .u64 (t.a0 : Int), .int .u64 (t.a1 : Int), .int .u64 (t.a2 : Int), .int .u64 (t.a3 : Int), .int .u64 (t.a4 : Int), .bool t.b5, .bool t.b6, .string ⟨#[99]⟩])) (hg : wx.grownBy w' vo.ownBlock) : OutT w0 v' (L ++ [t]) w' := by
  refine ⟨?_, h.below.grown hg (by have := h.below.size; omega) (fun g hg => (h.own.lt g hg).1)⟩
  rw [List.length_append]
  show w'.ownsRow _ _ _ _ (L.length + 1) _
  rw [show tlC (L ++ [t]) = tlC L ++ [.int .u64 (t.a0 : Int), .int .u64 (t.a1 : Int), .int .u64 (t.a2 : Int), .int .u64 (t.a3 : Int), .int .u64 (t.a4 : Int), .bool t.b5, .bool t.b6, .string ⟨#[99]⟩] by simp [tlC]]
  exact hown
set_option maxRecDepth 100000 in
set_option maxHeartbeats 6400000 in
theorem fires_walk (A : Option Addr) (n c : Nat) (x1 x2 x3 : Int) (w : World) (hr : RawsN w A n c) (hm : MaxLenAt w) (hT : DebAt w) :
    Calls Tryz.prog 6 #[.slice A n c, .int .i64 x1, .int .i64 x2, .int .i64 x3] w fun e w' => e = .returned (.bool true) ∧ Below w.heap.size w w' := by
  have HR := Lib.hid hr
  have HM := Lib.hid hm
  have HT := Lib.hid hT
  have hnc := hr.1
  have hn64 := hr.2.1
  clear hr hm hT
  obtain ⟨i0, hi, hz0, hz1, hz2⟩ := info_parts timedInfo
  go_enter Tryz.func6, Tryz.ntmps6
  go_wp2_with fail
  refine (landed_any _).mono ?_
  rintro e w2 ⟨rfl, hb2⟩
  have HB2 := Lib.hid hb2
  clear hb2
  go_wp2_with fail
  obtain ⟨q, hq⟩ : ∃ q : Nat, min (n : Int) 4 = (q : Int) := ⟨min n 4, by omega⟩
  have hq4 : q ≤ 4 := by omega
  have hqn : q ≤ n := by omega
  rw [hq, Int.toNat_natCast, show max (q : Int) 0 = (q : Int) by omega]
  clear hq
  go_loopw [9, 33] (fun s9 s33 wx => ∃ (vl : Value) (L : List TX) (i : Nat), vl = s9 ∧ s33 = .int .i64 (i : Int) ∧ Hid (i ≤ q ∧ L.length ≤ i) ∧ Hid (OutT w vl L wx) ∧ Hid (∀ t ∈ L, t.ok)) (fun _ s33 _ => q - (intOf s33).toNat)
  case atStart => exact ⟨_, [], 0, rfl, rfl, Lib.hid ⟨Nat.zero_le _, Nat.le_refl _⟩, Lib.hid ⟨World.ownsRow_nil _ _ _ _, HB2.out⟩, Lib.hid (fun t h => by cases h)⟩
  case round =>
    clear HB2
    obtain ⟨vl, L, i, rfl, rfl, HI, HO, HOK⟩ := hrel
    by_cases hlt : i < q
    · have hltz : (i : Int) < (q : Int) := Int.ofNat_lt.2 hlt
      obtain ⟨g, off, rfl, hgw, hraw⟩ := HR.out.2.2 (by omega)
      obtain ⟨A', n', c', hcell, hrn⟩ := hraw i (by omega)
      have cc := (HO.out.below.cell (p := ⟨g, off + i, none⟩) hgw).trans hcell
      have HRn := Lib.hid (hrn.keep HO.out.below)
      clear hraw hcell hrn hgw
      go_wp2_with fail
      refine (text_tx A' n' c' _ HRn.out).mono ?_
      rintro e w3 ⟨tx, rfl, htx, hb3⟩
      have HTx := Lib.hid htx
      have HO3 := Lib.hid (HO.out.keep hb3)
      clear htx hb3 HO cc HRn
      go_wp2_with fail
      refine (HTx.out _ (HM.out.keep HO3.out.below)).mono ?_
      rintro e w4 ⟨⟨a0, a1, a2, a3, a4, b5, b6, rfl, l0, l1, l2, l3, l4⟩ | ⟨er, her, rfl⟩, hb4⟩
      · have HO4 := Lib.hid (HO3.out.keep hb4)
        have HX := Lib.hid (BX.start w4 #[.int .u64 (a0 : Int), .int .u64 (a1 : Int), .int .u64 (a2 : Int), .int .u64 (a3 : Int), .int .u64 (a4 : Int), .bool b5, .bool b6] 24)
        have HOx := Lib.hid (HO4.out.keep HX.out.below)
        have HTk := Lib.hid (show TX.ok ⟨a0, a1, a2, a3, a4, b5, b6⟩ from ⟨l0, l1, l2, l3, l4⟩)
        have cx := HX.out.cells
        have HMx := Lib.hid (show L.length + 1 ≤ maxLen ∧ (L.length + 1) * 64 ≤ 140737488355328 by have := HI.out; unfold maxLen; omega)
        clear hb4 HO3 HO4 l0 l1 l2 l3 l4
        go_wp2_with (at_builtin; refine wpList_append_own _ rfl _ _ 41 rfl w.heap.size 43 i0 _ 8 64 Tryz.underlying41 hi hz0 hz1 hz2 (by rfl) (by decide) _ L.length _ rfl (HOx.out.keep ((Below.refl _ _).alloc (Nat.le_refl _) _)).own _ 1 1 [.int .u64 (a0 : Int), .int .u64 (a1 : Int), .int .u64 (a2 : Int), .int .u64 (a3 : Int), .int .u64 (a4 : Int), .bool b5, .bool b6, .string ⟨#[99]⟩] rfl rfl (World.news_of_block (two_new _ _ _)) (by intro u hu; simp at hu; rcases hu with rfl | rfl | rfl | rfl | rfl | rfl | rfl | rfl <;> rfl) HMx.out.1 HMx.out.2 (Nat.le_trans HOx.out.below.size (by simp)) ?_)
        intro v9 w9 hown9 hg9 _
        have HO9 := Lib.hid ((HOx.out.keep ((Below.refl _ _).alloc (Nat.le_refl _) _)).append (t := ⟨a0, a1, a2, a3, a4, b5, b6⟩) hown9 hg9)
        clear cx hown9 hg9
        go_wp2_with fail
        exact ⟨⟨v9, L ++ [⟨a0, a1, a2, a3, a4, b5, b6⟩], i + 1, rfl, by go_num, Lib.hid ⟨hlt, by have := HI.out; simp; omega⟩, HO9, Lib.hid (fun t ht => by
          rcases List.mem_append.1 ht with h | h
          · exact HOK.out t h
          · rw [List.mem_singleton.1 h]; exact HTk.out)⟩, by simp [intOf]; omega⟩
      · have HO4 := Lib.hid (HO3.out.keep hb4)
        have HO5 := Lib.hid (HO4.out.keep ((Below.refl _ _).alloc (Nat.le_refl _) (.cells zeroT 24)))
        unfold zeroT at HO5 ⊢
        have h1 : ((er : Int) != 0) = true := by simpa using her
        have h2 : ((er : Int) == 0) = false := by simpa using her
        clear hb4 HO3 HO4 her
        go_wp2_with fail
        exact ⟨⟨vl, L, i + 1, rfl, by go_num, Lib.hid ⟨hlt, by have := HI.out; omega⟩, HO5, HOK⟩, by simp [intOf]; omega⟩
    · have hnz : ¬ (i : Int) < (q : Int) := fun h => hlt (Int.ofNat_lt.1 h)
      have HLn := Lib.hid (show L.length ≤ 100 by have := HI.out; omega)
      clear hlt
      go_wp2_with fail
      refine (lwithin_any x1 15778080 67618080 _ (by omega) (by omega) (by omega)).mono ?_
      rintro e w5 ⟨rfl, rfl⟩
      have ha := pwL_range x1 15778080 67618080 (by omega)
      generalize pwL x1 15778080 67618080 = a at *
      obtain ⟨ha1, ha2⟩ := ha
      go_wp2_with fail
      refine (lwithin_any x2 0 3000 _ (by omega) (by omega) (by omega)).mono ?_
      rintro e w6 ⟨rfl, rfl⟩
      have hl := pwL_range x2 0 3000 (by omega)
      generalize pwL x2 0 3000 = lg at *
      obtain ⟨hl1, hl2⟩ := hl
      go_wp2_with fail
      refine (lwithin_any x3 a (a + lg) _ (by omega) (by omega) (by omega)).mono ?_
      rintro e w7 ⟨rfl, rfl⟩
      have hc := pwL_range x3 a (a + lg) (by omega)
      generalize pwL x3 a (a + lg) = cc at *
      have hb1 : a ≤ a + lg := by omega
      have hb2 : a + lg ≤ 68374079 := by omega
      generalize a + lg = bb at *
      obtain ⟨hc1, hc2⟩ := hc
      go_wp2_with fail
      refine (fires_v vl L a bb _ HO.out.lv HOK.out HLn.out ha1 hb1 (by omega) (by omega) (HT.out.keep HO.out.below)).mono ?_
      rintro e w8 h8
      obtain ⟨v1, er1, rfl⟩ := fi_forms h8
      have H8 := Lib.hid h8
      have HO8 := Lib.hid (HO.out.keep h8.1)
      clear h8
      go_wp2_with fail
      refine (rfires_v vl L a bb _ HO8.out.lv HOK.out HLn.out ha1 hb1 (by omega) (by omega) (HM.out.keep HO8.out.below)).mono ?_
      rintro e w9 h9
      obtain ⟨v2, er2, rfl⟩ := fi_forms h9
      have HO9 := Lib.hid (HO8.out.keep h9.1)
      have HB9 := Lib.hid h9.1
      rcases fi_pair H8.out h9 with ⟨er, her, q1, q2⟩ | ⟨h0, O, u1, u2, hO, q1, q2, k1, k2⟩
      · have hne : (er != 0) = true := by simpa using her
        have hnn : (er != er) = false := by simp
        obtain ⟨rfl, rfl⟩ := tup_inj q1
        obtain ⟨rfl, rfl⟩ := tup_inj q2
        clear h9 H8 q1 q2 her
        go_wp2_with fail
        refine (equal_same [] _ _ _ (kp_nil _) (kp_nil _) (by simp)).mono ?_
        rintro e w10 ⟨rfl, hb10⟩
        have HO10 := Lib.hid (HO9.out.keep hb10)
        clear hb10
        go_wp2_with fail
        go_ret
        exact ⟨rfl, HO10.out.below⟩
      · obtain ⟨rfl, rfl⟩ := tup_inj q1
        obtain ⟨rfl, rfl⟩ := tup_inj q2
        have HK1 := Lib.hid (k1.keep HB9.out)
        have HK2 := Lib.hid k2
        have HOO := Lib.hid hO
        have H0 := Lib.hid h0
        clear h9 H8 q1 q2 k1 k2 hO h0
        go_wp2_with fail
        refine (equal_same O _ _ _ HK1.out HK2.out (by have := HOO.out.2; omega)).mono ?_
        rintro e w10 ⟨rfl, hb10⟩
        have HO10 := Lib.hid (HO9.out.keep hb10)
        have HK10 := Lib.hid (HK1.out.keep hb10)
        clear hb10
        go_wp2_with fail
        refine (fires_v vl L a cc _ HO10.out.lv HOK.out HLn.out ha1 hc1 (by omega) (by omega) (HT.out.keep HO10.out.below)).mono ?_
        rintro e w11 h11
        obtain ⟨x, vx, hx, rfl, kx⟩ := fi_some H0.out HOO.out (Int.le_refl _) hc2 h11
        obtain ⟨Ax, nx, cx, rfl⟩ := kp_form kx
        have HO11 := Lib.hid (HO10.out.keep h11.1)
        have HK11 := Lib.hid (HK10.out.keep h11.1)
        have HX := Lib.hid (And.intro hx kx)
        clear h11 hx kx
        go_wp2_with fail
        refine (fires_v vl L cc bb _ HO11.out.lv HOK.out HLn.out (by omega) hc2 (by omega) (by omega) (HT.out.keep HO11.out.below)).mono ?_
        rintro e w12 h12
        obtain ⟨y, vy, hy, rfl, ky⟩ := fi_some H0.out HOO.out hc1 (Int.le_refl _) h12
        obtain ⟨Ay, ny, cy, rfl⟩ := kp_form ky
        have HO12 := Lib.hid (HO11.out.keep h12.1)
        have HK12 := Lib.hid (HK11.out.keep h12.1)
        have HX12 := Lib.hid (HX.out.2.keep h12.1)
        have hxy : x ++ y = O := by
          obtain ⟨x', y', e1, e2, e3⟩ := FRes.parts hc1 hc2 HOO.out HX.out.1 hy
          injection e1 with e1
          injection e2 with e2
          rw [e1, e2]
          exact e3
        have HXY := Lib.hid hxy
        have HY := Lib.hid (And.intro hy ky)
        have HBa := Lib.hid ((Below.refl _ w12).alloc (Nat.le_refl _) (.cells #[.slice Ax nx cx, .slice Ay ny cy] 44))
        have HG := Lib.hid (BoxC.start w12 #[.slice Ax nx cx, .slice Ay ny cy] 44)
        clear h12 hy ky hxy
        go_wp2_with fail
        refine (concat_any x y _ _ _ _ HG.out (HX12.out.keep HBa.out) (HY.out.2.keep HBa.out) HX.out.1.2 HY.out.1.2).mono ?_
        rintro e w13 ⟨v, rfl, kv, hb13⟩
        have HO13 := Lib.hid ((HO12.out.keep HBa.out).keep hb13)
        have HK13 := Lib.hid ((HK12.out.keep HBa.out).keep hb13)
        have HV := Lib.hid (show KP w13 v O by rw [← HXY.out]; exact kv)
        clear kv hb13
        go_wp2_with fail
        refine (equal_same O _ _ _ HV.out HK13.out (by have := HOO.out.2; omega)).mono ?_
        rintro e w14 ⟨rfl, hb14⟩
        have HO14 := Lib.hid (HO13.out.keep hb14)
        clear hb14
        go_wp2_with fail
        go_ret
        exact ⟨rfl, HO14.out.below⟩
end Go.Proofs.YtlhaidibcocooaaGreatDoor
