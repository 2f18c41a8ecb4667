/- ConstMatches, the law's pieces that may stand in double quotes: one step of the generator. (Begun; see NOTES.md.) -/
import Derived.Test.YtbgmjmooifjhjaaDoorDiceM
namespace Go.Proofs.YtbgmjmooifjhjaaDoor
open Go.RowKit

abbrev CP (b B C : Nat) (d : Int) : Prop := ∀ W k', DB W b B k' → k' + C ≤ 4611686018427387904 → Calls Tryd.prog 30 #[.pointer (some ⟨b, 0, none⟩), .int .i64 d] W (PP b B (k' + C) W)
/-- what building such a piece leaves -/
def IP (b B m : Nat) (w : World) (e : Ending) (w' : World) : Prop := ∃ (kd : Int) (p3 p4 p5 : Option Addr), e = .returned (.agg #[.int .i64 kd, .string ⟨#[]⟩, .slice none 0 0, .pointer p3, .pointer p4, .pointer p5]) ∧ DB w' b B m ∧ Only b w w'
def zeroP : Array Value := #[.int .i64 0, .string ⟨#[]⟩, .slice none 0 0, .pointer none, .pointer none, .pointer none]
/-- the piece's box -/
structure RB (b B k g : Nat) (a w : World) (cs : Array Value) : Prop where
  base : b < B ∧ B ≤ a.heap.size ∧ a.heap.size ≤ g
  db : DB w b B k
  only : Only b a w
  box : w.heap[g]? = some (.cells cs 51 (0, 0))
theorem RB.lt {b B k g : Nat} {a w : World} {cs : Array Value} (h : RB b B k g a w cs) : g < w.heap.size := (Array.getElem?_eq_some_iff.1 h.box).1
theorem RB.step {b B k k' g : Nat} {a w w' : World} {cs : Array Value} (h : RB b B k g a w cs) (hd : DB w' b B k') (ho : Only b w w') : RB b B k' g a w' cs := by
  have hb := h.base
  exact ⟨hb, hd, h.only.trans ho, (ho.block g h.lt (by omega)).trans h.box⟩
theorem RB.alloc {b B k g : Nat} {a w : World} {cs : Array Value} (h : RB b B k g a w cs) (o : Obj) : RB b B k g a (w.alloc o) cs :=
  h.step (h.db.keep ((Below.refl _ w).alloc (Nat.le_refl _) o)) ((Only.refl b w).alloc o)
theorem RB.drew {b B k g : Nat} {a w : World} {cs : Array Value} (h : RB b B k g a w cs) : RB b B k g a w.drew cs :=
  h.step (h.db.keep (Below.refl _ w).drew) (Only.refl b w).drew
theorem RB.set {b B k g i : Nat} {a w : World} {cs : Array Value} (h : RB b B k g a w cs) (v : Value) : RB b B k g a (w.setCell ⟨g, i, none⟩ v) (cs.setIfInBounds i v) := by
  have hb := h.base
  refine ⟨hb, h.db.set_ (by omega) i v, h.only.new hb.2.2 v, ?_⟩
  rw [heap_setCell_same _ _ _ _ _ _ h.box]
theorem RB.look {b B k g : Nat} {a w : World} {cs : Array Value} (h : RB b B k g a w cs) : (∀ j, w.cell? ⟨g, j, none⟩ = cs[j]?) ∧ (∀ j, w.frozen? ⟨g, j, none⟩ = false) ∧ g < w.heap.size :=
  ⟨fun j => by simp [World.cell?, h.box], fun j => by simp [World.frozen?, h.box], h.lt⟩
theorem RB.start {b B k : Nat} {w : World} (h : DB w b B k) (cs : Array Value) : RB b B k w.heap.size w (w.alloc (.cells cs 51)) cs := by
  have hb := h.base
  exact ⟨⟨hb.1, hb.2, Nat.le_refl _⟩, h.keep ((Below.refl _ w).alloc (Nat.le_refl _) _), (Only.refl b w).alloc _, heap_alloc_new w _⟩
theorem RB.six {b B k g : Nat} {a w : World} {v0 v1 v2 v3 v4 v5 u0 u1 u2 u3 u4 u5 : Value} (h : RB b B k g a w #[v0, v1, v2, v3, v4, v5]) :
    RB b B k g a ((((((w.setCell ⟨g, 0, none⟩ u0).setCell ⟨g, 1, none⟩ u1).setCell ⟨g, 2, none⟩ u2).setCell ⟨g, 3, none⟩ u3).setCell ⟨g, 4, none⟩ u4).setCell ⟨g, 5, none⟩ u5) #[u0, u1, u2, u3, u4, u5] :=
  (((((h.set u0).set u1).set u2).set u3).set u4).set u5
theorem RB.sixA {b B k g : Nat} {a w : World} {v0 v1 v2 v3 v4 v5 u0 u1 u2 u3 u4 u5 : Value} (h : RB b B k g a w #[v0, v1, v2, v3, v4, v5]) (o : Obj) :
    RB b B k g a (((((((w.setCell ⟨g, 0, none⟩ u0).setCell ⟨g, 1, none⟩ u1).setCell ⟨g, 2, none⟩ u2).setCell ⟨g, 3, none⟩ u3).setCell ⟨g, 4, none⟩ u4).setCell ⟨g, 5, none⟩ u5).alloc o) #[u0, u1, u2, u3, u4, u5] :=
  h.six.alloc o
theorem ret_piece {b B k m g : Nat} {a W : World} {act : Act} {kd : Int} {p3 p4 p5 : Option Addr} (h : RB b B k g a W #[.int .i64 kd, .string ⟨#[]⟩, .slice none 0 0, .pointer p3, .pointer p4, .pointer p5])
    (ht : act.tmps[4]? = some (.pointer (some ⟨g, 0, none⟩)) ∧ act.defers = []) (hm : k ≤ m) : bodyPost Tryd.prog Tryd.f18 (IP b B m a) .ret act W := by
  have cf := h.look.1
  refine bodyPost_ret (v := .agg #[.int .i64 kd, .string ⟨#[]⟩, .slice none 0 0, .pointer p3, .pointer p4, .pointer p5]) ?_ ht.2 ⟨kd, p3, p4, p5, rfl, h.db.more' hm, h.only⟩
  simp [results, Tryd.results18, go_sem, cf, ht.1]

set_option maxRecDepth 100000 in
set_option maxHeartbeats 1600000 in
theorem inner_step (b B k C : Nat) (deep : Int) (w : World) (h : DB w b B k) (hk : k + C + 5 ≤ 4611686018427387904) (hdp : -100 ≤ deep) (hdp2 : deep ≤ 2)
    (hP : CP b B C deep) (hE : CE b B C (deep - 1)) :
    Calls Tryd.prog 18 #[.pointer (some ⟨b, 0, none⟩), .int .i64 deep] w (IP b B (k + C + 5) w) := by
  have e1 : IntKind.i64.wrap (deep - 1) = deep - 1 := IntWalk.i64_in _ (by omega)
  have HP := Lib.hid hP
  have HE := Lib.hid hE
  have HR := Lib.hid (RB.start h zeroP)
  have hbase := h.base
  clear h hP hE
  go_enter Tryd.func18, Tryd.ntmps18
  go_wp2_with fail
  unfold zeroP at HR
  generalize w.alloc (.cells #[.int .i64 0, .string ⟨#[]⟩, .slice none 0 0, .pointer none, .pointer none, .pointer none] 51) = w1 at *
  generalize w.heap.size = g at *
  refine (roll_b b B k 4 _ HR.out.db (by omega) (by omega) (by omega)).mono ?_
  rintro e w2 ⟨r, rfl, _, _, hd2, ho2⟩
  have HR2 := Lib.hid (HR.out.step hd2 ho2)
  clear hd2 ho2 HR
  obtain ⟨cc, zc, lc⟩ := HR2.out.look
  cases r0 : (r == 0) with
  | true =>
    go_wp2_with fail
    refine (HE.out _ (k + 1) HR2.out.db (by omega)).mono ?_
    rintro e w3 ⟨op, nm, n, A, l, c, rfl, hd3, ho3⟩
    have HR3 := Lib.hid (HR2.out.step hd3 ho3)
    clear hd3 ho3 HR2 cc zc lc
    obtain ⟨cc, zc, lc⟩ := HR3.out.look
    go_wp2_with fail
    refine ret_piece (HR3.out.sixA _) ⟨rfl, rfl⟩ ?_
    omega
  | false =>
    have hd : (decide (2 < deep)) = false := by rw [decide_eq_false_iff_not]; omega
    cases r1 : (r == 1)
    all_goals
      go_wp2_with fail
      refine (HP.out _ (k + 1) HR2.out.db (by omega)).mono ?_
      rintro e w3 ⟨p, rfl, hd3, ho3⟩
      have HR3 := Lib.hid (HR2.out.step hd3 ho3)
      clear hd3 ho3 HR2 cc zc lc
      obtain ⟨cc, zc, lc⟩ := HR3.out.look
      go_wp2_with fail
      refine ret_piece HR3.out.six ⟨rfl, rfl⟩ ?_
      omega

end Go.Proofs.YtbgmjmooifjhjaaDoor
