/- SetIsGot: stateOf (begun). -/
import Derived.Test.YtiapondfajmkaaaGreatDoorSiPick
import Derived.Test.YtiapondfajmkaaaGreatDoorSiNew
import Derived.Test.YtiapondfajmkaaaGreatDoorSiDel
namespace Go.Proofs.YtiapondfajmkaaaGreatDoor
open Go.RowKit

/-- what is told of the state of some texts -/
def StateP (w : World) (e : Ending) (w' : World) : Prop := ∃ S p f, e = .returned (.tuple #[.agg (cellsS S p), .bool f]) ∧ Below w.heap.size w w' ∧ (f = true → ShM w' S p ∧ S.dr = ⟨#[47]⟩ ∧ 0 < S.vs.length ∧ (∀ v ∈ S.vs, v.fx = false) ∧ Small S ∧ okS S)
/-- the seven variables of the state, their list at block g -/
def p7 (l : List ByteArray) (g : Nat) : List VE := [(⟨⟨#[72, 79, 77, 69]⟩, ⟨#[47, 104]⟩, false, [], true, false⟩, (none, 0, 0)), (⟨⟨#[73, 70, 83]⟩, atS l 0, false, [], false, false⟩, (none, 0, 0)), (⟨⟨#[80, 87, 68]⟩, ⟨#[47]⟩, false, [], true, false⟩, (none, 0, 0)), (⟨⟨#[97, 98, 99]⟩, atS l 1, false, [], false, false⟩, (none, 0, 0)), (⟨⟨#[108]⟩, ⟨#[]⟩, true, [atS l 2, atS l 3, ⟨#[55]⟩], false, false⟩, (some ⟨g, 0, none⟩, 3, 3)), (⟨⟨#[110]⟩, ⟨#[51]⟩, false, [], false, false⟩, (none, 0, 0)), (⟨⟨#[120]⟩, atS l 4, false, [], false, false⟩, (none, 0, 0))]
theorem atS_size (l : List ByteArray) (i : Int) : (atS l i).size ≤ 300 := by
  unfold atS
  rw [ByteArray.size_extract]
  omega
/-- what the variables of a state are bounded by -/
structure GoodP (P : List VE) : Prop where
  pos : 0 < P.length
  few : P.length ≤ 7
  fx : ∀ p ∈ P, p.1.fx = false
  ls : ∀ p ∈ P, p.1.ls.length ≤ 3
  sz : ∀ p ∈ P, sizeV p.1 ≤ 2000
theorem good7 (l : List ByteArray) (g : Nat) : GoodP (p7 l g) := by
  have h0 := atS_size l 0
  have h1 := atS_size l 1
  have h2 := atS_size l 2
  have h3 := atS_size l 3
  have h4 := atS_size l 4
  have hs : ∀ p ∈ p7 l g, p.1.fx = false ∧ p.1.ls.length ≤ 3 ∧ sizeV p.1 ≤ 2000 := by
    intro p hp
    simp only [p7, List.mem_cons, List.not_mem_nil, or_false] at hp
    have e1 : (⟨#[72, 79, 77, 69]⟩ : ByteArray).size = 4 := rfl
    have e2 : (⟨#[47, 104]⟩ : ByteArray).size = 2 := rfl
    have e3 : (⟨#[73, 70, 83]⟩ : ByteArray).size = 3 := rfl
    have e4 : (⟨#[80, 87, 68]⟩ : ByteArray).size = 3 := rfl
    have e5 : (⟨#[47]⟩ : ByteArray).size = 1 := rfl
    have e6 : (⟨#[97, 98, 99]⟩ : ByteArray).size = 3 := rfl
    have e7 : (⟨#[108]⟩ : ByteArray).size = 1 := rfl
    have e8 : (⟨#[]⟩ : ByteArray).size = 0 := rfl
    have e9 : (⟨#[55]⟩ : ByteArray).size = 1 := rfl
    have ea : (⟨#[110]⟩ : ByteArray).size = 1 := rfl
    have eb : (⟨#[51]⟩ : ByteArray).size = 1 := rfl
    have ec : (⟨#[120]⟩ : ByteArray).size = 1 := rfl
    rcases hp with rfl | rfl | rfl | rfl | rfl | rfl | rfl
    all_goals
      refine ⟨rfl, by simp, ?_⟩
      simp only [sizeV, sumS, List.map_nil, List.map_cons, List.sum_nil, List.sum_cons, e1, e2, e3, e4, e5, e6, e7, e8, e9, ea, eb, ec]
      omega
  exact ⟨by simp [p7], by simp [p7], fun p hp => (hs p hp).1, fun p hp => (hs p hp).2.1, fun p hp => (hs p hp).2.2⟩
theorem GoodP.del {P : List VE} (h : GoodP P) (i : Nat) (hi : 1 < P.length) : GoodP (P.take i ++ P.drop (i + 1)) := by
  have hm : ∀ p ∈ P.take i ++ P.drop (i + 1), p ∈ P := fun p hp => by
    rcases List.mem_append.1 hp with hp | hp
    · exact List.mem_of_mem_take hp
    · exact List.mem_of_mem_drop hp
  have hf := h.few
  exact ⟨by rw [List.length_append, List.length_take, List.length_drop]; omega, by rw [List.length_append, List.length_take, List.length_drop]; omega, fun p hp => h.fx p (hm p hp), fun p hp => h.ls p (hm p hp), fun p hp => h.sz p (hm p hp)⟩
theorem GoodP.sum : ∀ (P : List VE), (∀ p ∈ P, sizeV p.1 ≤ 2000) → ((P.map Prod.fst).map sizeV).sum ≤ 2000 * P.length
  | [], _ => by simp
  | p :: r, h => by
    have h1 := h p List.mem_cons_self
    have h2 := GoodP.sum r (fun q hq => h q (List.mem_cons_of_mem _ hq))
    simp only [List.map_cons, List.sum_cons, List.length_cons]
    omega
theorem vo7 (l : List ByteArray) (w : World) (B : Nat) (hB : B ≤ w.heap.size) : VO B ((w.alloc (.cells #[.string (atS l 2), .string (atS l 3), .string ⟨#[55]⟩] 9)).alloc (.cells #[.string ⟨#[72, 79, 77, 69]⟩, .string ⟨#[47, 104]⟩, .bool false, .slice none 0 0, .bool true, .bool false, .string ⟨#[73, 70, 83]⟩, .string (atS l 0), .bool false, .slice none 0 0, .bool false, .bool false, .string ⟨#[80, 87, 68]⟩, .string ⟨#[47]⟩, .bool false, .slice none 0 0, .bool true, .bool false, .string ⟨#[97, 98, 99]⟩, .string (atS l 1), .bool false, .slice none 0 0, .bool false, .bool false, .string ⟨#[108]⟩, .string ⟨#[]⟩, .bool true, .slice (some ⟨w.heap.size, 0, none⟩) 3 3, .bool false, .bool false, .string ⟨#[110]⟩, .string ⟨#[51]⟩, .bool false, .slice none 0 0, .bool false, .bool false, .string ⟨#[120]⟩, .string (atS l 4), .bool false, .slice none 0 0, .bool false, .bool false] 32)) (.slice (some ⟨w.heap.size + 1, 0, none⟩) 7 7) (p7 l w.heap.size) := by
  have hsl := SL.of_own (l := [atS l 2, atS l 3, ⟨#[55]⟩]) (World.ownsRow_lit (base := w.heap.size) (e := 9) (size := 1) w #[.string (atS l 2), .string (atS l 3), .string ⟨#[55]⟩] 3 (Nat.le_refl _) (by decide) rfl)
  refine ⟨?_, fun p hp => ?_⟩
  · have := World.ownsRow_lit (base := B) (e := 32) (size := 6) (w.alloc (.cells #[.string (atS l 2), .string (atS l 3), .string ⟨#[55]⟩] 9)) (prV (p7 l w.heap.size)).toArray 7 (by simp; omega) (by decide) rfl
    rw [show (w.alloc (.cells #[.string (atS l 2), .string (atS l 3), .string ⟨#[55]⟩] 9)).heap.size = w.heap.size + 1 by simp] at this
    exact this
  · simp only [p7, List.mem_cons, List.not_mem_nil, or_false] at hp
    rcases hp with rfl | rfl | rfl | rfl | rfl | rfl | rfl
    all_goals first
      | exact SL.empty _
      | exact hsl.keep ((Below.refl _ _).alloc (Nat.le_refl _) _)
/-- the state while it is made -/
structure StX (w : World) (y r : Nat) (o1 o2 : Int) (wx : World) (ar V : SV) (P : List VE) (a : List ByteArray) : Prop where
  blk : Blk wx y 28 #[.string ⟨#[115, 104]⟩, sv ar, sv V, .slice none 0 0, .slice none 0 0, .int .i64 o1, .int .i64 o2, .int .i64 18, .string ⟨#[47]⟩]
  vo : VO w.heap.size wx (sv V) P
  ar : SL wx (sv ar) a
  few : a.length ≤ 3
  sz : sumS a ≤ 1000
  good : GoodP P
  bel : Below w.heap.size w wx
  out : Blk wx r 28 #[.string ⟨#[]⟩, .slice none 0 0, .slice none 0 0, .slice none 0 0, .slice none 0 0, .int .i64 0, .int .i64 0, .int .i64 0, .string ⟨#[]⟩]
theorem StX.del {w : World} {y r : Nat} {o1 o2 : Int} {wx w2 : World} {ar : SV} {g n c : Nat} {P : List VE} {a : List ByteArray} (h : StX w y r o1 o2 wx ar (some ⟨g, 0, none⟩, n, c) P a) (hn : n = P.length) (h1 : 1 < n) (hg : wx.grownBy w2 (some g)) (hown : w2.ownsRow w.heap.size 32 6 (.slice (some ⟨g, 0, none⟩) (n - 1) c) (n - 1) (prV (P.take 1 ++ P.drop 2))) (hy : w.heap.size ≤ y) (hry : r ≠ y) :
    StX w y r o1 o2 (w2.setCell ⟨y, 2, none⟩ (.slice (some ⟨g, 0, none⟩) (n - 1) c)) ar (some ⟨g, 0, none⟩, n - 1, c) (P.take 1 ++ P.drop 2) a ∧ Blk w2 y 28 #[.string ⟨#[115, 104]⟩, sv ar, sv (some ⟨g, 0, none⟩, n, c), .slice none 0 0, .slice none 0 0, .int .i64 o1, .int .i64 o2, .int .i64 18, .string ⟨#[47]⟩] := by
  subst hn
  obtain ⟨cur, hcur⟩ := h.vo.blk
  have hne : ∀ (k : Nat) (T : TypeId) (cs : Array Value) (fr : Nat × Nat), wx.heap[k]? = some (.cells cs T fr) → T ≠ 32 → k ≠ g := fun k T cs fr hk hT e => by
    subst e
    have e2 := Option.some.inj (hk.symm.trans hcur)
    injection e2 with _ e3 _
    exact hT e3
  have hkeep : ∀ (k : Nat), k < wx.heap.size → k ≠ g → w2.heap[k]? = wx.heap[k]? := fun k hk hkg => hg.block k hk (fun e => hkg (Option.some.inj e))
  have hyb : Blk w2 y 28 #[.string ⟨#[115, 104]⟩, sv ar, sv (some ⟨g, 0, none⟩, P.length, c), .slice none 0 0, .slice none 0 0, .int .i64 o1, .int .i64 o2, .int .i64 18, .string ⟨#[47]⟩] := (hkeep y h.blk.lt (hne y _ _ _ h.blk (by decide))).trans h.blk
  have hrb : Blk w2 r 28 #[.string ⟨#[]⟩, .slice none 0 0, .slice none 0 0, .slice none 0 0, .slice none 0 0, .int .i64 0, .int .i64 0, .int .i64 0, .string ⟨#[]⟩] := (hkeep r h.out.lt (hne r _ _ _ h.out (by decide))).trans h.out
  have hkt : KeepT wx w2 := ⟨hg.size, fun k hk => by
    obtain ⟨cs, fr, hk⟩ := hk
    exact hkeep k (Array.getElem?_eq_some_iff.1 hk).1 (hne k _ _ _ hk (by decide))⟩
  have hbase : w.heap.size ≤ g := by
    rcases h.vo.own.2 with ⟨e, _⟩ | ⟨g', c', cur', e, hb, _⟩
    · cases e
    · injection e with e _ _
      injection e with e
      injection e with e _ _
      omega
  have hbel : Below w.heap.size w w2 := ⟨hg.os.trans h.bel.os, hg.tape.trans h.bel.tape, hg.output.trans h.bel.output, Nat.le_trans h.bel.size hg.size, fun k hk => (hkeep k (Nat.lt_of_lt_of_le hk h.bel.size) (by omega)).trans (h.bel.block k hk)⟩
  have hvo : VO w.heap.size w2 (.slice (some ⟨g, 0, none⟩) (P.length - 1) c) (P.take 1 ++ P.drop 2) := ⟨by
      have hl : (P.take 1 ++ P.drop 2).length = P.length - 1 := by rw [List.length_append, List.length_take, List.length_drop]; omega
      rw [hl]
      exact hown, fun p hp => by
      refine SL.keepT (h.vo.ls p ?_) hkt
      rcases List.mem_append.1 hp with hp | hp
      · exact List.mem_of_mem_take hp
      · exact List.mem_of_mem_drop hp⟩
  refine ⟨?_, hyb⟩
  exact ⟨hyb.set_ 2 _, hvo.far hyb (by decide) (by decide) 2 _, (h.ar.keepT hkt).keepT (KeepT.setCell hyb (by decide) 2 _), h.few, h.sz, h.good.del 1 h1, hbel.setCell hy _, hrb.far hry _⟩
theorem StX.none {w : World} {y r : Nat} {o1 o2 : Int} {wx : World} {ar V : SV} {P : List VE} {a : List ByteArray} (h : StX w y r o1 o2 wx ar V P a) (hy : w.heap.size ≤ y) (hry : r ≠ y) :
    StX w y r o1 o2 (wx.setCell ⟨y, 1, none⟩ (.slice none 0 0)) (none, 0, 0) V P [] :=
  ⟨h.blk.set_ 1 _, h.vo.far h.blk (by decide) (by decide) 1 _, SL.empty _, by simp, by simp [sumS], h.good, h.bel.setCell hy _, h.out.far hry _⟩
/-- the state that was made -/
theorem StX.state {w : World} {y r : Nat} {o1 o2 : Int} {wx : World} {ar V : SV} {P : List VE} {a : List ByteArray} (h : StX w y r o1 o2 wx ar V P a) :
    ∃ S, S = (⟨⟨#[115, 104]⟩, a, P.map Prod.fst, o1, o2, 18, ⟨#[47]⟩⟩ : ShV) ∧ ShM wx S ⟨ar, V⟩ ∧ 0 < S.vs.length ∧ (∀ v ∈ S.vs, v.fx = false) ∧ Small S := by
  refine ⟨_, rfl, ⟨h.ar, h.vo.vl⟩, by rw [List.length_map]; exact h.good.pos, fun v hv => ?_, ?_⟩
  · obtain ⟨p, hp, rfl⟩ := List.mem_map.1 hv
    exact h.good.fx p hp
  · refine ⟨by have := h.few; show a.length ≤ 2000; omega, by have := h.good.few; show (P.map Prod.fst).length ≤ 2000; rw [List.length_map]; omega, fun v hv => ?_, ?_⟩
    · obtain ⟨p, hp, rfl⟩ := List.mem_map.1 hv
      have := h.good.ls p hp
      omega
    · have h1 := GoodP.sum P h.good.sz
      have h2 := h.good.few
      have h3 := h.sz
      show sumS a + ((P.map Prod.fst).map sizeV).sum ≤ 4611686018427387904
      omega
set_option maxRecDepth 100000 in
set_option maxHeartbeats 3200000 in
theorem stateOf_any (l : List ByteArray) (A : Option Addr) (n c : Nat) (o : Int) (w : World) (h : AL w (.slice A n c) l) (hn : l.length ≤ 4611686018427387903) :
    Calls Tryz.prog 5 #[.slice A n c, .int .i64 o] w (StateP w) := by
  obtain rfl := h.len
  obtain ⟨Q, hQ⟩ : ∃ Q, StateP w = Q := ⟨_, rfl⟩
  rw [hQ]
  have HQ := Lib.hid (fun e w' (h : StateP w e w') => (show Q e w' from hQ ▸ h))
  have HA := Lib.hid h
  have HN := Lib.hid hn
  clear hQ h hn
  go_enter Tryz.func5, Tryz.ntmps5
  go_upto_region 1 with fail
  obtain ⟨bx, hbx⟩ : ∃ bx, bx = w.heap.size := ⟨_, rfl⟩
  obtain ⟨W0, hW0⟩ : ∃ W0, W0 = (w.alloc (.cells #[.slice A l.length c] 22)).alloc (.cells #[.string ⟨#[]⟩, .slice none 0 0, .slice none 0 0, .slice none 0 0, .slice none 0 0, .int .i64 0, .int .i64 0, .int .i64 0, .string ⟨#[]⟩] 28) := ⟨_, rfl⟩
  have HB0 : Hid (Below w.heap.size w W0) := Lib.hid (by rw [hW0]; exact ((Below.refl _ w).alloc (Nat.le_refl _) _).alloc (by simp) _)
  have HX0 : Hid (Blk W0 bx 22 #[.slice A l.length c]) := Lib.hid (by rw [hW0]; exact (Blk.new w _ _ hbx.symm).alloc _)
  have HR0 : Hid (Blk W0 (bx + 1) 28 #[.string ⟨#[]⟩, .slice none 0 0, .slice none 0 0, .slice none 0 0, .slice none 0 0, .int .i64 0, .int .i64 0, .int .i64 0, .string ⟨#[]⟩]) := Lib.hid (by rw [hW0]; exact Blk.new _ _ _ (by rw [hbx]; simp))
  have HBW : Hid (w.heap.size ≤ bx) := Lib.hid (by rw [hbx]; exact Nat.le_refl _)
  rw [← hbx, ← hW0]
  clear hbx hW0
  have HNEW := Lib.hid (new_any W0)
  unfold NewP at HNEW
  go_upto_region 2 with (go_at_call 13; refine HNEW.out.mono ?_; rintro e w1 ⟨⟨v1, v2, v3⟩, rfl, hm1, hb1⟩; have HB1 := Lib.hid (HB0.out.trans (hb1.mono HB0.out.size)); have HX1 := Lib.hid (HX0.out.keep hb1); have HR1 := Lib.hid (HR0.out.keep hb1); have HM1 := Lib.hid hm1; clear hm1 hb1; dsimp only [cellsS, sv, newS])
  obtain ⟨y, hy⟩ : ∃ y, y = w1.heap.size := ⟨_, rfl⟩
  obtain ⟨W2, hW2⟩ : ∃ W2, W2 = w1.alloc (.cells #[.string ⟨#[115, 104]⟩, .slice none 0 0, .slice v1 v2 v3, .slice none 0 0, .slice none 0 0, .int .i64 0, .int .i64 0, .int .i64 18, .string ⟨#[47]⟩] 28) := ⟨_, rfl⟩
  have HB2 : Hid (Below w.heap.size w W2) := Lib.hid (by rw [hW2]; exact HB1.out.alloc HB1.out.size _)
  have HX2 : Hid (Blk W2 bx 22 #[.slice A l.length c]) := Lib.hid (by rw [hW2]; exact HX1.out.alloc _)
  have HR2 : Hid (Blk W2 (bx + 1) 28 #[.string ⟨#[]⟩, .slice none 0 0, .slice none 0 0, .slice none 0 0, .slice none 0 0, .int .i64 0, .int .i64 0, .int .i64 0, .string ⟨#[]⟩]) := Lib.hid (by rw [hW2]; exact HR1.out.alloc _)
  have HY2 : Hid (Blk W2 y 28 #[.string ⟨#[115, 104]⟩, .slice none 0 0, .slice v1 v2 v3, .slice none 0 0, .slice none 0 0, .int .i64 0, .int .i64 0, .int .i64 18, .string ⟨#[47]⟩]) := Lib.hid (by rw [hW2]; exact Blk.new _ _ _ hy.symm)
  have HM2 : Hid (ShM W2 newS ⟨(none, 0, 0), (v1, v2, v3)⟩) := Lib.hid (HM1.out.keep (by rw [hW2]; exact (Below.refl _ w1).alloc (Nat.le_refl _) _))
  have HYW : Hid (w.heap.size ≤ y ∧ bx + 1 ≠ y ∧ bx ≠ y) := Lib.hid ⟨by rw [hy]; exact HB1.out.size, by have := HR1.out.lt; omega, by have := HX1.out.lt; omega⟩
  rw [← hy, ← hW2]
  clear hy hW2 HX0 HR0 HNEW HX1 HR1 HM1 HB1 HB0
  have b0 : W2.cell? ⟨bx, 0, none⟩ = some (.slice A l.length c) := HX2.out.cell.1 0
  have HA2 := Lib.hid (HA.out.keep HB2.out)
  have HIX : Hid (∀ t W, Calls Tryz.prog 9 #[.string t, .int .u8 0] W fun e w' => e = .returned (.int .i64 (Lib.indexByte t.data.toList 0)) ∧ W = w') := Lib.hid (fun t W => (Tryz.strings_IndexByte t 0 W).mono fun _ _ h => ⟨h.1, h.2.symm⟩)
  go_wp2_with fail
  go_loopw [13] (fun i wr => ∃ k : Nat, k ≤ l.length ∧ i = .int .i64 k ∧ wr = W2) (fun i _ => l.length - (intOf i).toNat)
  case atStart => exact ⟨0, Nat.zero_le _, rfl, rfl⟩
  case round =>
    obtain ⟨k, hk, rfl, rfl⟩ := hrel
    by_cases hlt : k < l.length
    · obtain ⟨A', c', e1, _, g1⟩ := HA2.out
      injection e1 with e11 e12 e13
      subst e11
      obtain ⟨b1, o1, rfl, _, hc1⟩ := g1 (by omega)
      have d1 := hc1 k hlt
      have HI := Lib.hid (fun W => HIX.out l[k] W)
      generalize l[k] = t at *
      have hltz : (k : Int) < (l.length : Int) := by omega
      have hk0 : 0 ≤ (k : Int) := by omega
      have hk1 : IntKind.i64.wrap ((k : Int) + 1) = ((k + 1 : Nat) : Int) := IntWalk.i64_in _ (by have := HN.out; omega)
      clear hc1 g1 e12 e13
      generalize Lib.indexByte t.data.toList 0 = ix at HI
      by_cases hz : 0 ≤ ix
      · obtain ⟨y0, y1, y2, y3, y4, y5, y6, y7, y8, yf⟩ := HY2.out.nine
        obtain ⟨r0, r1, r2, r3, r4, r5, r6, r7, r8, rf⟩ := HR2.out.nine
        obtain ⟨W6, hW6⟩ : ∃ W6, W6 = set9 wr (bx + 1) (.string ⟨#[115, 104]⟩) (.slice none 0 0) (.slice v1 v2 v3) (.slice none 0 0) (.slice none 0 0) (.int .i64 0) (.int .i64 0) (.int .i64 18) (.string ⟨#[47]⟩) := ⟨_, rfl⟩
        have HE := set9_blk HR2.out (.string ⟨#[115, 104]⟩) (.slice none 0 0) (.slice v1 v2 v3) (.slice none 0 0) (.slice none 0 0) (.int .i64 0) (.int .i64 0) (.int .i64 18) (.string ⟨#[47]⟩)
        have HF := Lib.hid (HQ.out (.returned (.tuple #[.agg #[.string ⟨#[115, 104]⟩, .slice none 0 0, .slice v1 v2 v3, .slice none 0 0, .slice none 0 0, .int .i64 0, .int .i64 0, .int .i64 18, .string ⟨#[47]⟩], .bool false])) (set9 wr (bx + 1) (.string ⟨#[115, 104]⟩) (.slice none 0 0) (.slice v1 v2 v3) (.slice none 0 0) (.slice none 0 0) (.int .i64 0) (.int .i64 0) (.int .i64 18) (.string ⟨#[47]⟩)) ⟨newS, ⟨(none, 0, 0), (v1, v2, v3)⟩, false, rfl, set9_below HB2.out (by have := HBW.out; omega) _ _ _ _ _ _ _ _ _, fun h => by cases h⟩)
        rw [← hW6] at HE HF
        obtain ⟨z0, z1, z2, z3, z4, z5, z6, z7, z8, _⟩ := HE.nine
        unfold set9 at hW6
        have HW6 := Lib.hid hW6
        clear hW6 HE
        go_wp2_with (go_at_call 9; refine (HI.out _).mono ?_; rintro e w3 ⟨rfl, rfl⟩)
        rw [← HW6.out]
        exact bodyPost_ret (v := .tuple #[.agg #[.string ⟨#[115, 104]⟩, .slice none 0 0, .slice v1 v2 v3, .slice none 0 0, .slice none 0 0, .int .i64 0, .int .i64 0, .int .i64 18, .string ⟨#[47]⟩], .bool false]) (by simp [results, Tryz.results5, go_sem, z0, z1, z2, z3, z4, z5, z6, z7, z8]) rfl HF.out
      · have hz2 : ¬ ix ≥ 0 := hz
        go_wp2_with (go_at_call 9; refine (HI.out _).mono ?_; rintro e w3 ⟨rfl, rfl⟩)
        all_goals first
          | (exfalso; omega)
          | (exact ⟨⟨k + 1, by omega, by simp, trivial⟩, by simp [intOf]; omega⟩)
    · go_upto_region 9 with fail
      have HAT : Hid (∀ i W, Below wr.heap.size wr W → Calls Tryz.prog 14 #[.int .i64 i, .pointer (some ⟨bx, 0, none⟩)] W fun e w' => e = .returned (.string (atS l i)) ∧ W = w') := Lib.hid (fun i W hb => at_any l A l.length c bx i W (HA2.out.keep hb) HN.out ((HX2.out.keep hb).cell.1 0))
      have HY9 : Hid (Blk ((wr.alloc (.cells #[.string (atS l 2), .string (atS l 3), .string ⟨#[55]⟩] 9)).alloc (.cells #[.string ⟨#[72, 79, 77, 69]⟩, .string ⟨#[47, 104]⟩, .bool false, .slice none 0 0, .bool true, .bool false, .string ⟨#[73, 70, 83]⟩, .string (atS l 0), .bool false, .slice none 0 0, .bool false, .bool false, .string ⟨#[80, 87, 68]⟩, .string ⟨#[47]⟩, .bool false, .slice none 0 0, .bool true, .bool false, .string ⟨#[97, 98, 99]⟩, .string (atS l 1), .bool false, .slice none 0 0, .bool false, .bool false, .string ⟨#[108]⟩, .string ⟨#[]⟩, .bool true, .slice (some ⟨wr.heap.size, 0, none⟩) 3 3, .bool false, .bool false, .string ⟨#[110]⟩, .string ⟨#[51]⟩, .bool false, .slice none 0 0, .bool false, .bool false, .string ⟨#[120]⟩, .string (atS l 4), .bool false, .slice none 0 0, .bool false, .bool false] 32)) y 28 #[.string ⟨#[115, 104]⟩, .slice none 0 0, .slice v1 v2 v3, .slice none 0 0, .slice none 0 0, .int .i64 0, .int .i64 0, .int .i64 18, .string ⟨#[47]⟩]) := Lib.hid ((HY2.out.alloc _).alloc _)
      obtain ⟨y0, y1, y2, y3, y4, y5, y6, y7, y8, yf⟩ := HY9.out.nine
      go_upto_region 10 with (go_at_call 14; refine (HAT.out _ _ (by first | exact Below.refl _ _ | exact (Below.refl _ _).alloc (Nat.le_refl _) _)).mono ?_; rintro e w3 ⟨rfl, rfl⟩)
      obtain ⟨W8, hW8⟩ : ∃ W8, W8 = (wr.alloc (.cells #[.string (atS l 2), .string (atS l 3), .string ⟨#[55]⟩] 9)).alloc (.cells #[.string ⟨#[72, 79, 77, 69]⟩, .string ⟨#[47, 104]⟩, .bool false, .slice none 0 0, .bool true, .bool false, .string ⟨#[73, 70, 83]⟩, .string (atS l 0), .bool false, .slice none 0 0, .bool false, .bool false, .string ⟨#[80, 87, 68]⟩, .string ⟨#[47]⟩, .bool false, .slice none 0 0, .bool true, .bool false, .string ⟨#[97, 98, 99]⟩, .string (atS l 1), .bool false, .slice none 0 0, .bool false, .bool false, .string ⟨#[108]⟩, .string ⟨#[]⟩, .bool true, .slice (some ⟨wr.heap.size, 0, none⟩) 3 3, .bool false, .bool false, .string ⟨#[110]⟩, .string ⟨#[51]⟩, .bool false, .slice none 0 0, .bool false, .bool false, .string ⟨#[120]⟩, .string (atS l 4), .bool false, .slice none 0 0, .bool false, .bool false] 32) := ⟨_, rfl⟩
      rw [← hW8] at HY9 ⊢
      have HV8 : Hid (VO w.heap.size W8 (.slice (some ⟨wr.heap.size + 1, 0, none⟩) 7 7) (p7 l wr.heap.size)) := Lib.hid (by rw [hW8]; exact vo7 l wr w.heap.size HB2.out.size)
      have HBW8 : Hid (Below wr.heap.size wr W8) := Lib.hid (by rw [hW8]; exact ((Below.refl _ wr).alloc (Nat.le_refl _) _).alloc (by simp) _)
      have HG := Lib.hid (good7 l wr.heap.size)
      generalize hP7 : p7 l wr.heap.size = P7 at *
      generalize hgv : wr.heap.size + 1 = gv at *
      have HB8 := Lib.hid (HB2.out.trans (HBW8.out.mono HB2.out.size))
      have HX8 := Lib.hid (HX2.out.keep HBW8.out)
      have HR8 := Lib.hid (HR2.out.keep HBW8.out)
      have HL7 : Hid (P7.length = 7) := Lib.hid (by rw [← hP7]; rfl)
      clear hW8 y0 y1 y2 y3 y4 y5 y6 y7 y8 yf HAT hP7 hgv
      obtain ⟨W9, hW9⟩ : ∃ W9, W9 = W8.setCell ⟨y, 2, none⟩ (.slice (some ⟨gv, 0, none⟩) 7 7) := ⟨_, rfl⟩
      rw [← hW9]
      have HY9' : Hid (Blk W9 y 28 #[.string ⟨#[115, 104]⟩, .slice none 0 0, .slice (some ⟨gv, 0, none⟩) 7 7, .slice none 0 0, .slice none 0 0, .int .i64 0, .int .i64 0, .int .i64 18, .string ⟨#[47]⟩]) := Lib.hid (by rw [hW9]; exact HY9.out.set_ 2 _)
      have HV9 : Hid (VO w.heap.size W9 (.slice (some ⟨gv, 0, none⟩) 7 7) P7) := Lib.hid (by rw [hW9]; exact HV8.out.far HY9.out (by decide) (by decide) 2 _)
      have HB9 : Hid (Below w.heap.size w W9) := Lib.hid (by rw [hW9]; exact HB8.out.setCell HYW.out.1 _)
      have HX9 : Hid (Blk W9 bx 22 #[.slice A l.length c]) := Lib.hid (by rw [hW9]; exact HX8.out.far HYW.out.2.2 _)
      have HR9 : Hid (Blk W9 (bx + 1) 28 #[.string ⟨#[]⟩, .slice none 0 0, .slice none 0 0, .slice none 0 0, .slice none 0 0, .int .i64 0, .int .i64 0, .int .i64 0, .string ⟨#[]⟩]) := Lib.hid (by rw [hW9]; exact HR8.out.far HYW.out.2.1 _)
      have HAT : Hid (∀ i, Calls Tryz.prog 14 #[.int .i64 i, .pointer (some ⟨bx, 0, none⟩)] W9 fun e w' => e = .returned (.string (atS l i)) ∧ W9 = w') := Lib.hid (fun i => at_any l A l.length c bx i W9 (HA.out.keep HB9.out) HN.out (HX9.out.cell.1 0))
      have HYA : Hid (Blk (W9.alloc (.cells #[.string (atS l 5), .string (atS l 6), .string ⟨#[97, 32, 98]⟩] 9)) y 28 #[.string ⟨#[115, 104]⟩, .slice none 0 0, .slice (some ⟨gv, 0, none⟩) 7 7, .slice none 0 0, .slice none 0 0, .int .i64 0, .int .i64 0, .int .i64 18, .string ⟨#[47]⟩]) := Lib.hid (HY9'.out.alloc _)
      have HSA : Hid (SL (W9.alloc (.cells #[.string (atS l 5), .string (atS l 6), .string ⟨#[97, 32, 98]⟩] 9)) (.slice (some ⟨W9.heap.size, 0, none⟩) 3 3) [atS l 5, atS l 6, ⟨#[97, 32, 98]⟩]) := Lib.hid (SL.of_own (World.ownsRow_lit (base := W9.heap.size) (e := 9) (size := 1) W9 #[.string (atS l 5), .string (atS l 6), .string ⟨#[97, 32, 98]⟩] 3 (Nat.le_refl _) (by decide) rfl))
      have HSZ : Hid (sumS [atS l 5, atS l 6, ⟨#[97, 32, 98]⟩] ≤ 1000) := Lib.hid (by
        have h5 := atS_size l 5
        have h6 := atS_size l 6
        have h7 : (⟨#[97, 32, 98]⟩ : ByteArray).size = 3 := rfl
        simp only [sumS, List.map_cons, List.map_nil, List.sum_cons, List.sum_nil, h7]
        omega)
      clear hW9 HY9 HV8 HBW8 HB8 HX8 HR8 HX2 HR2 HY2 HB2 HM2 HA2 HIX b0
      obtain ⟨y0, y1, y2, y3, y4, y5, y6, y7, y8, yf⟩ := HYA.out.nine
      go_upto_region 11 with (go_at_call 14; refine (HAT.out _).mono ?_; rintro e w3 ⟨rfl, rfl⟩)
      obtain ⟨ga, hga⟩ : ∃ ga, ga = W9.heap.size := ⟨_, rfl⟩
      rw [← hga] at HSA ⊢
      have HBA : Hid (Below w.heap.size w (W9.alloc (.cells #[.string (atS l 5), .string (atS l 6), .string ⟨#[97, 32, 98]⟩] 9))) := Lib.hid (HB9.out.alloc HB9.out.size _)
      have HVA := Lib.hid (HV9.out.keep ((Below.refl _ W9).alloc (Nat.le_refl _) (.cells #[.string (atS l 5), .string (atS l 6), .string ⟨#[97, 32, 98]⟩] 9)))
      have HRA := Lib.hid (HR9.out.alloc (.cells #[.string (atS l 5), .string (atS l 6), .string ⟨#[97, 32, 98]⟩] 9))
      clear hga
      generalize [atS l 5, atS l 6, (⟨#[97, 32, 98]⟩ : ByteArray)] = al at HSA HSZ
      generalize W9.alloc (.cells #[.string (atS l 5), .string (atS l 6), .string ⟨#[97, 32, 98]⟩] 9) = WA at *
      have HAL3 : Hid (al.length ≤ 3) := Lib.hid (by have := HSA.out.len; omega)
      obtain ⟨W10, hW10⟩ : ∃ W10, W10 = WA.setCell ⟨y, 1, none⟩ (.slice (some ⟨ga, 0, none⟩) 3 3) := ⟨_, rfl⟩
      rw [← hW10]
      have HY10 : Hid (Blk W10 y 28 #[.string ⟨#[115, 104]⟩, .slice (some ⟨ga, 0, none⟩) 3 3, .slice (some ⟨gv, 0, none⟩) 7 7, .slice none 0 0, .slice none 0 0, .int .i64 0, .int .i64 0, .int .i64 18, .string ⟨#[47]⟩]) := Lib.hid (by rw [hW10]; exact HYA.out.set_ 1 _)
      have HV10 : Hid (VO w.heap.size W10 (.slice (some ⟨gv, 0, none⟩) 7 7) P7) := Lib.hid (by rw [hW10]; exact HVA.out.far HYA.out (by decide) (by decide) 1 _)
      have HB10 : Hid (Below w.heap.size w W10) := Lib.hid (by rw [hW10]; exact HBA.out.setCell HYW.out.1 _)
      have HR10 : Hid (Blk W10 (bx + 1) 28 #[.string ⟨#[]⟩, .slice none 0 0, .slice none 0 0, .slice none 0 0, .slice none 0 0, .int .i64 0, .int .i64 0, .int .i64 0, .string ⟨#[]⟩]) := Lib.hid (by rw [hW10]; exact HRA.out.far HYW.out.2.1 _)
      have HS10 : Hid (SL W10 (.slice (some ⟨ga, 0, none⟩) 3 3) al) := Lib.hid (by rw [hW10]; exact HSA.out.keepT (KeepT.setCell HYA.out (by decide) 1 _))
      clear hW10 HSA HYA HVA HRA HBA HV9 HB9 HR9 HX9 HAT HY9' y0 y1 y2 y3 y4 y5 y6 y7 y8 yf
      have HW1 : Hid (∀ W, Calls Tryz.prog 16 #[.int .i64 o, .int .i64 0, .int .i64 31] W fun e w' => e = .returned (.int .i64 (inR o 32)) ∧ W = w') := Lib.hid (fun W => within_any o 31 (by decide) (by decide) W)
      have HW2 : Hid (∀ W, Calls Tryz.prog 16 #[.int .i64 o, .int .i64 0, .int .i64 3] W fun e w' => e = .returned (.int .i64 (inR o 4)) ∧ W = w') := Lib.hid (fun W => within_any o 3 (by decide) (by decide) W)
      generalize inR o 32 = o1 at HW1
      generalize inR o 4 = o2 at HW2
      obtain ⟨y0, y1, y2, y3, y4, y5, y6, y7, y8, yf⟩ := HY10.out.nine
      go_upto_region 12 with (go_at_call 16; refine (HW1.out _).mono ?_; rintro e w3 ⟨rfl, rfl⟩)
      go_upto_region 13 with (go_at_call 16; refine (HW2.out _).mono ?_; rintro e w3 ⟨rfl, rfl⟩)
      obtain ⟨W11, hW11⟩ : ∃ W11, W11 = (W10.setCell ⟨y, 5, none⟩ (.int .i64 o1)).setCell ⟨y, 6, none⟩ (.int .i64 o2) := ⟨_, rfl⟩
      rw [← hW11]
      have HSX : Hid (StX w y (bx + 1) o1 o2 W11 (some ⟨ga, 0, none⟩, 3, 3) (some ⟨gv, 0, none⟩, 7, 7) P7 al) := Lib.hid (by
        have b1 := HY10.out.set_ 5 (.int .i64 o1)
        have b2 := b1.set_ 6 (.int .i64 o2)
        rw [hW11]
        exact ⟨b2, (HV10.out.far HY10.out (by decide) (by decide) 5 _).far b1 (by decide) (by decide) 6 _, (HS10.out.keepT (KeepT.setCell HY10.out (by decide) 5 _)).keepT (KeepT.setCell b1 (by decide) 6 _), HAL3.out, HSZ.out, HG.out, (HB10.out.setCell HYW.out.1 _).setCell HYW.out.1 _, (HR10.out.far HYW.out.2.1 _).far HYW.out.2.1 _⟩)
      clear hW11 HY10 HV10 HB10 HR10 HS10 HAL3 HSZ HG HW1 HW2 y0 y1 y2 y3 y4 y5 y6 y7 y8 yf
      go_upto_if 58 with fail
      obtain ⟨cb, hcb⟩ : ∃ cb, (bits BinOp.and IntKind.i64 o 64 != 0) = cb := ⟨_, rfl⟩
      rw [hcb]
      clear hcb
      go_cut [] (fun wx => ∃ (ar V : SV) (P : List VE) (a : List ByteArray), Hid (StX w y (bx + 1) o1 o2 wx ar V P a))
      case first =>
        cases cb with
        | false =>
          go_wp2_with fail
          go_meet
          exact ⟨_, _, _, _, HSX⟩
        | true =>
          have HD : Hid (Calls Tryz.prog 17 #[.slice (some ⟨gv, 0, none⟩) 7 7, .int .i64 1, .int .i64 2] W11 (DelQ w.heap.size gv 7 7 1 P7 W11)) := Lib.hid (delete_own w.heap.size gv 7 7 1 P7 W11 (by have := HSX.out.vo.own; rwa [HL7.out] at this) HL7.out.symm (by decide) (by decide) (by decide))
          unfold DelQ DelP at HD
          obtain ⟨y0, y1, y2, y3, y4, y5, y6, y7, y8, yf⟩ := HSX.out.blk.nine
          dsimp only [sv] at y1 y2
          go_wp2_with (go_at_call 17; refine HD.out.mono ?_; rintro e w3 ⟨⟨rfl, hg3⟩, ho3⟩; have HS3 := Lib.hid (HSX.out.del HL7.out.symm (by decide) hg3 ho3 HYW.out.1 HYW.out.2.1); obtain ⟨q0, q1, q2, q3, q4, q5, q6, q7, q8, qf⟩ := HS3.out.2.nine; clear hg3 ho3)
          have HS4 := Lib.hid HS3.out.1
          go_meet
          exact ⟨_, _, _, _, HS4⟩
      case rest =>
        clear HSX
        obtain ⟨ar, V, P, a, HSX⟩ := hcut
        obtain ⟨a1, a2, a3⟩ := ar
        obtain ⟨b1, b2, b3⟩ := V
        obtain ⟨y0, y1, y2, y3, y4, y5, y6, y7, y8, yf⟩ := HSX.out.blk.nine
        dsimp only [sv] at y1 y2
        go_upto_if 65 with fail
        obtain ⟨cd, hcd⟩ : ∃ cd, (bits BinOp.and IntKind.i64 o 128 != 0) = cd := ⟨_, rfl⟩
        rw [hcd]
        clear hcd
        go_cut [] (fun wx => ∃ (ar V : SV) (P : List VE) (a : List ByteArray), Hid (StX w y (bx + 1) o1 o2 wx ar V P a))
        case first =>
          cases cd with
          | false =>
            go_wp2_with fail
            go_meet
            exact ⟨_, _, _, _, HSX⟩
          | true =>
            have HS3 := Lib.hid (HSX.out.none HYW.out.1 HYW.out.2.1)
            go_wp2_with fail
            go_meet
            exact ⟨_, _, _, _, HS3⟩
        case rest =>
          clear HSX
          obtain ⟨⟨a1, a2, a3⟩, ⟨b1, b2, b3⟩, P, a, HSX⟩ := hcut
          clear y0 y1 y2 y3 y4 y5 y6 y7 y8 yf
          obtain ⟨S, hS, hm, hpos, hfx, hsm⟩ := HSX.out.state
          have HMS := Lib.hid hm
          have HST := Lib.hid (And.intro hpos (And.intro hfx hsm))
          have HCK : Hid (∀ W, Below wc.heap.size wc W → Calls Tryz.prog 10 #[.agg #[.string ⟨#[115, 104]⟩, .slice a1 a2 a3, .slice b1 b2 b3, .slice none 0 0, .slice none 0 0, .int .i64 o1, .int .i64 o2, .int .i64 18, .string ⟨#[47]⟩]] W (CheckP S W)) := Lib.hid (fun W hb => by
            have := check_any S ⟨(a1, a2, a3), (b1, b2, b3)⟩ W (hm.keep hb) hsm (by rw [hS])
            rw [hS] at this ⊢
            exact this)
          have HRET : Hid (∀ (W : World) (cz : Int), (cz = 0 ↔ okS S) → Below wc.heap.size wc W → Q (.returned (.tuple #[.agg #[.string ⟨#[115, 104]⟩, .slice a1 a2 a3, .slice b1 b2 b3, .slice none 0 0, .slice none 0 0, .int .i64 o1, .int .i64 o2, .int .i64 18, .string ⟨#[47]⟩], .bool (cz == 0)])) (set9 W (bx + 1) (.string ⟨#[115, 104]⟩) (.slice a1 a2 a3) (.slice b1 b2 b3) (.slice none 0 0) (.slice none 0 0) (.int .i64 o1) (.int .i64 o2) (.int .i64 18) (.string ⟨#[47]⟩))) := Lib.hid (fun W cz hcz hb => by
            have hrb := HSX.out.out.keep hb
            have hmw := hm.keep hb
            refine HQ.out _ _ ⟨S, ⟨(a1, a2, a3), (b1, b2, b3)⟩, (cz == 0), by rw [hS]; rfl, set9_below (HSX.out.bel.trans (hb.mono HSX.out.bel.size)) (by have := HBW.out; omega) _ _ _ _ _ _ _ _ _, fun hf => ⟨?_, by rw [hS], hpos, hfx, hsm, hcz.1 (by simpa using hf)⟩⟩
            have hv := (set9_vo (HSX.out.vo.keep hb) hrb (by decide) (by decide) (.string ⟨#[115, 104]⟩) (.slice a1 a2 a3) (.slice b1 b2 b3) (.slice none 0 0) (.slice none 0 0) (.int .i64 o1) (.int .i64 o2) (.int .i64 18) (.string ⟨#[47]⟩)).vl
            refine ⟨hmw.ar.keepT (set9_keepT hrb (by decide) _ _ _ _ _ _ _ _ _), ?_⟩
            rw [hS]
            exact hv)
          have HOB := Lib.hid (fun W (hb : Below wc.heap.size wc W) => HSX.out.out.keep hb)
          have HYB := Lib.hid (fun W (hb : Below wc.heap.size wc W) => HSX.out.blk.keep hb)
          clear hS hm hpos hfx hsm HMS HST HSX HQ
          unfold CheckP at HCK
          go_upto_region 17 with fail
          have HD : Hid (Below wc.heap.size wc wc.drew) := Lib.hid (Below.refl _ _).drew
          obtain ⟨y0, y1, y2, y3, y4, y5, y6, y7, y8, yf⟩ := (HYB.out _ HD.out).nine
          obtain ⟨z0, z1, z2, z3, z4, z5, z6, z7, z8, zf⟩ := (HOB.out _ HD.out).nine
          go_region_with (go_at_call 10; refine (HCK.out _ HD.out).mono ?_; rintro e w8 ⟨cz, rfl, hcz, hb⟩; have HD8 := Lib.hid (HD.out.trans (hb.mono HD.out.size)); have HCZ := Lib.hid hcz; obtain ⟨g0, g1, g2, g3, g4, g5, g6, g7, g8, gf⟩ := (HYB.out _ HD8.out).nine; obtain ⟨r0, r1, r2, r3, r4, r5, r6, r7, r8, rf⟩ := (HOB.out _ HD8.out).nine; clear hb hcz)
          all_goals
            have HE := set9_blk (HOB.out _ HD8.out) (.string ⟨#[115, 104]⟩) (.slice a1 a2 a3) (.slice b1 b2 b3) (.slice none 0 0) (.slice none 0 0) (.int .i64 o1) (.int .i64 o2) (.int .i64 18) (.string ⟨#[47]⟩)
            have HF := Lib.hid (HRET.out w8 cz HCZ.out HD8.out)
            obtain ⟨W6, hW6⟩ : ∃ W6, W6 = set9 w8 (bx + 1) (.string ⟨#[115, 104]⟩) (.slice a1 a2 a3) (.slice b1 b2 b3) (.slice none 0 0) (.slice none 0 0) (.int .i64 o1) (.int .i64 o2) (.int .i64 18) (.string ⟨#[47]⟩) := ⟨_, rfl⟩
            rw [← hW6] at HE HF
            clear y0 y1 y2 y3 y4 y5 y6 y7 y8 yf z0 z1 z2 z3 z4 z5 z6 z7 z8 zf g0 g1 g2 g3 g4 g5 g6 g7 g8 gf r0 r1 r2 r3 r4 r5 r6 r7 r8 rf
            obtain ⟨z0, z1, z2, z3, z4, z5, z6, z7, z8, _⟩ := HE.nine
            unfold set9 at hW6
            rw [← hW6]
            clear hW6 HE
            go_wp2_with fail
            exact bodyPost_ret (v := .tuple #[.agg #[.string ⟨#[115, 104]⟩, .slice a1 a2 a3, .slice b1 b2 b3, .slice none 0 0, .slice none 0 0, .int .i64 o1, .int .i64 o2, .int .i64 18, .string ⟨#[47]⟩], .bool (cz == 0)]) (by simp [results, Tryz.results5, go_sem, z0, z1, z2, z3, z4, z5, z6, z7, z8]) rfl HF.out
end Go.Proofs.YtiapondfajmkaaaGreatDoor
