/- ConstMatches, the law's expressions: the closure that builds a goal. (Begun; see NOTES.md.) -/
import Derived.Test.YtbgmjmooifjhjaaDoorDiceB
import Derived.Deep.RegionHeld3
import Derived.Deep.DeepCutAuto
namespace Go.Proofs.YtbgmjmooifjhjaaDoor
open Go.RowKit

/-- one of the texts of a new literal -/
theorem of_d (b B k : Nat) (L : List ByteArray) (cs : Array Value) (w : World) (h : DB w b B k) (hk : k ≤ 4611686018427387904) (h1 : 1 ≤ L.length) (h2 : L.length ≤ 1000) (hcs : cs = (L.map Value.string).toArray) :
    Calls Tryd.prog 17 #[.pointer (some ⟨b, 0, none⟩), .slice (some ⟨w.heap.size, 0, none⟩) L.length L.length] ((w.alloc (.cells cs 9)).drew) fun e w' => ∃ s : ByteArray, e = .returned (.string s) ∧ s ∈ L ∧ DB w' b B (k + 1) ∧ Only b w w' := by
  have hlt := h.lt
  have hk2 := h.keep (((Below.refl _ w).alloc (Nat.le_refl _) (.cells cs 9)).drew)
  obtain ⟨A, n, c, i, left, h0, hd, h3, h4, h5, h6, h7⟩ := hk2
  have hcell : ∀ j (hj : j < L.length), ((w.alloc (.cells cs 9)).drew).cell? ⟨w.heap.size, 0 + j, none⟩ = some (.string L[j]) := fun j hj => by
    have hh := heap_alloc_new w (.cells cs 9)
    rw [Nat.zero_add]
    show (w.alloc (.cells cs 9)).cell? _ = _
    unfold World.cell?
    dsimp only
    rw [hh]
    show cs[j]? = _
    subst hcs
    simp [hj]
  refine (of_any b A n c i left L w.heap.size 0 L.length _ hd h3 h4 (by omega) h1 h2 (by show w.heap.size < (w.alloc _).heap.size; simp) (by omega) hcell).mono ?_
  rintro e w' ⟨s, i', rfl, hs, hi1, hi2, hd', ho⟩
  exact ⟨s, rfl, hs, ⟨A, n, c, i', left, ⟨h0.1, Nat.le_trans h0.2.1 ho.size, h0.2.2⟩, hd', h3, by omega, by omega, by omega, h7⟩, (Only.of (((Below.refl _ w).alloc (Nat.le_refl _) _).drew) (Nat.le_refl _)).trans ho⟩
/-- what building an expression leaves -/
def EP (b B m : Nat) (w : World) (e : Ending) (w' : World) : Prop := ∃ (op nm : ByteArray) (n : Int) (A : Option Addr) (l c : Nat), e = .returned (.agg #[.string op, .int .i64 n, .string nm, .slice A l c]) ∧ DB w' b B m ∧ Only b w w'
theorem Only.cell {b : Nat} {w w' : World} (h : Only b w w') {g i : Nat} (hg : g < w.heap.size) (hgb : g ≠ b) : w'.cell? ⟨g, i, none⟩ = w.cell? ⟨g, i, none⟩ := World.cell?_of_block (a := ⟨g, i, none⟩) (h.block g hg hgb)
/-- the expression's box, with nothing in it -/
def zeroE : Array Value := #[.string ⟨#[]⟩, .int .i64 0, .string ⟨#[]⟩, .slice none 0 0]
def EB (w : World) (g : Nat) : Prop := w.heap[g]? = some (.cells zeroE 76 (0, 0))
theorem EB.cells {w : World} {g : Nat} (h : EB w g) : (∀ j, w.cell? ⟨g, j, none⟩ = zeroE[j]?) ∧ (∀ j, w.frozen? ⟨g, j, none⟩ = false) := ⟨fun j => by unfold EB at h; simp [World.cell?, h], fun j => by unfold EB at h; simp [World.frozen?, h]⟩
theorem EB.lt {w : World} {g : Nat} (h : EB w g) : g < w.heap.size := (Array.getElem?_eq_some_iff.1 h).1
theorem EB.only {b g : Nat} {w w' : World} (h : EB w g) (ho : Only b w w') (hgb : g ≠ b) : EB w' g := (ho.block g (Array.getElem?_eq_some_iff.1 h).1 hgb).trans h

abbrev fourE (w : World) (g : Nat) (v0 v1 v2 v3 : Value) : World := (((w.setCell ⟨g, 0, none⟩ v0).setCell ⟨g, 1, none⟩ v1).setCell ⟨g, 2, none⟩ v2).setCell ⟨g, 3, none⟩ v3
theorem four_heap {w : World} {g : Nat} (h : EB w g) (v0 v1 v2 v3 : Value) : (fourE w g v0 v1 v2 v3).heap[g]? = some (.cells #[v0, v1, v2, v3] 76 (0, 0)) := by
  rw [heap_setCell_same _ _ _ _ _ _ (heap_setCell_same _ _ _ _ _ _ (heap_setCell_same _ _ _ _ _ _ (heap_setCell_same _ _ _ _ _ _ h)))]
  rfl
theorem four_db {w : World} {b B k g : Nat} (h : DB w b B k) (hg : B ≤ g) (v0 v1 v2 v3 : Value) : DB (fourE w g v0 v1 v2 v3) b B k := (((h.set_ hg 0 _).set_ hg 1 _).set_ hg 2 _).set_ hg 3 _
theorem Only.new {b g i : Nat} {a w : World} (h : Only b a w) (hg : a.heap.size ≤ g) (v : Value) : Only b a (w.setCell ⟨g, i, none⟩ v) :=
  ⟨h.os, h.tape, h.output, by simpa [World.setCell] using h.size, fun k hk hb => (heap_setCell_other w ⟨g, i, none⟩ k v (fun e => by have e2 : k = g := e; omega)).trans (h.block k hk hb)⟩
theorem four_only {b g : Nat} {a w : World} (h : Only b a w) (hg : a.heap.size ≤ g) (v0 v1 v2 v3 : Value) : Only b a (fourE w g v0 v1 v2 v3) := (((h.new hg _).new hg _).new hg _).new hg _

theorem only_drew {b : Nat} {a w : World} (h : Only b a.drew w) : Only b a w := ⟨h.os, h.tape, h.output, h.size, h.block⟩
theorem Only.drew {b : Nat} {a w : World} (h : Only b a w) : Only b a w.drew := ⟨h.os, h.tape, h.output, h.size, h.block⟩
theorem two_s {b gd gp : Nat} {deep : Int} {a w : World} (ho : Only b a w) (h : (gd < a.heap.size ∧ gd ≠ b ∧ gp < a.heap.size ∧ gp ≠ b) ∧ a.cell? ⟨gd, 0, none⟩ = some (.pointer (some ⟨b, 0, none⟩)) ∧ a.cell? ⟨gp, 0, none⟩ = some (.int .i64 deep)) :
    w.cell? ⟨gd, 0, none⟩ = some (.pointer (some ⟨b, 0, none⟩)) ∧ w.cell? ⟨gp, 0, none⟩ = some (.int .i64 deep) :=
  ⟨(ho.cell h.1.1 h.1.2.1).trans h.2.1, (ho.cell h.1.2.2.1 h.1.2.2.2).trans h.2.2⟩

theorem two_four {b gd gp g : Nat} {deep : Int} {w : World} (h : w.cell? ⟨gd, 0, none⟩ = some (.pointer (some ⟨b, 0, none⟩)) ∧ w.cell? ⟨gp, 0, none⟩ = some (.int .i64 deep)) (n : gd ≠ g ∧ gp ≠ g) (v0 v1 v2 v3 : Value) :
    (fourE w g v0 v1 v2 v3).cell? ⟨gd, 0, none⟩ = some (.pointer (some ⟨b, 0, none⟩)) ∧ (fourE w g v0 v1 v2 v3).cell? ⟨gp, 0, none⟩ = some (.int .i64 deep) := by
  have ho : ∀ k, k ≠ g → (fourE w g v0 v1 v2 v3).heap[k]? = w.heap[k]? := fun k hk =>
    (heap_setCell_other _ ⟨g, 3, none⟩ k v3 hk).trans ((heap_setCell_other _ ⟨g, 2, none⟩ k v2 hk).trans ((heap_setCell_other _ ⟨g, 1, none⟩ k v1 hk).trans (heap_setCell_other _ ⟨g, 0, none⟩ k v0 hk)))
  exact ⟨(World.cell?_of_block (a := ⟨gd, 0, none⟩) (ho gd n.1)).trans h.1, (World.cell?_of_block (a := ⟨gp, 0, none⟩) (ho gp n.2)).trans h.2⟩

theorem four_alloc {w : World} {g : Nat} (h : EB w g) {v0 v1 v2 v3 : Value} (o : Obj) : ((fourE w g v0 v1 v2 v3).alloc o).heap[g]? = some (.cells #[v0, v1, v2, v3] 76 (0, 0)) := by
  have hh := four_heap h v0 v1 v2 v3
  have hb : g < (fourE w g v0 v1 v2 v3).heap.size := (Array.getElem?_eq_some_iff.1 hh).1
  exact (((Below.refl _ (fourE w g v0 v1 v2 v3)).alloc (Nat.le_refl _) o).block g hb).trans hh
theorem some_alloc {w : World} {p : Addr} {v : Value} (h : w.cell? p = some v) (o : Obj) : (w.alloc o).cell? p = some v := by
  have hb : p.block < w.heap.size := by
    unfold World.cell? at h
    cases hh : w.heap[p.block]? with
    | none => rw [hh] at h; cases h
    | some x => exact (Array.getElem?_eq_some_iff.1 hh).1
  exact (((Below.refl _ w).alloc (Nat.le_refl _) o).cell hb).trans h
theorem two_al {gd gp : Nat} {v u : Value} {w : World} (h : w.cell? ⟨gd, 0, none⟩ = some v ∧ w.cell? ⟨gp, 0, none⟩ = some u) (o : Obj) : (w.alloc o).cell? ⟨gd, 0, none⟩ = some v ∧ (w.alloc o).cell? ⟨gp, 0, none⟩ = some u := ⟨some_alloc h.1 o, some_alloc h.2 o⟩

set_option maxRecDepth 100000 in
set_option maxHeartbeats 1600000 in
theorem goal_any (b B k gd gp C : Nat) (deep : Int) (w : World) (hd : w.cell? ⟨gd, 0, none⟩ = some (.pointer (some ⟨b, 0, none⟩))) (hp : w.cell? ⟨gp, 0, none⟩ = some (.int .i64 deep)) (hgd : gd < w.heap.size) (hgp : gp < w.heap.size) (hnd : gd ≠ b) (hnp : gp ≠ b)
    (h : DB w b B k) (hk : k + C + 3 ≤ 4611686018427387904) (hdp : -100 ≤ deep) (hdp2 : deep ≤ 100) (hE : ∀ W k', DB W b B k' → k' + C ≤ 4611686018427387904 → Calls Tryd.prog 28 #[.pointer (some ⟨b, 0, none⟩), .int .i64 (deep - 2)] W (EP b B (k' + C) W)) :
    Calls Tryd.prog 46 #[.pointer (some ⟨gd, 0, none⟩), .pointer (some ⟨gp, 0, none⟩)] w (EP b B (k + C + 3) w) := by
  have hlt := h.lt
  have e1 : IntKind.i64.wrap (deep - 2) = deep - 2 := IntWalk.i64_in _ (by omega)
  have HE := Lib.hid hE
  have HW := Lib.hid h
  clear h hE
  go_enter Tryd.func46, Tryd.ntmps46
  go_wp2_with fail
  have HB1 := Lib.hid (HW.out.keep ((Below.refl _ w).alloc (Nat.le_refl _) (.cells zeroE 76)))
  have HX1 := Lib.hid (show EB (w.alloc (.cells zeroE 76)) w.heap.size from heap_alloc_new w _)
  have HO1 := Lib.hid ((Only.refl b w).alloc (.cells zeroE 76))
  refine (roll_b b B k 3 _ HB1.out (by omega) (by omega) (by omega)).mono ?_
  rintro e w2 ⟨r, rfl, hr1, hr2, hb2, ho2⟩
  have HO2 := Lib.hid (HO1.out.trans ho2)
  have HB2 := Lib.hid hb2
  have hgb : w.heap.size ≠ b := by omega
  have HX2 := Lib.hid (HX1.out.only ho2 hgb)
  have hd2 := (HO2.out.cell (i := 0) hgd hnd).trans hd
  have hp2 := (HO2.out.cell (i := 0) hgp hnp).trans hp
  have hgd2 : gd < w2.heap.size := Nat.lt_of_lt_of_le hgd HO2.out.size
  have hgp2 : gp < w2.heap.size := Nat.lt_of_lt_of_le hgp HO2.out.size
  clear hd hp hb2 ho2
  cases hr : (r == 0) with
  | false =>
    go_wp2_with fail
    refine (of_b b B (k + 1) [⟨#[120]⟩, ⟨#[121]⟩, ⟨#[110]⟩] _ w2 HB2.out (by omega) (by decide) (by decide) rfl).mono ?_
    rintro e w3 ⟨s, rfl, hs, hb3, ho3⟩
    have HO3 := Lib.hid (HO2.out.trans ho3)
    have HB3 := Lib.hid hb3
    have HX3 := Lib.hid (HX2.out.only ho3 hgb)
    clear hb3 ho3 hs
    obtain ⟨c3, z3⟩ := HX3.out.cells
    unfold zeroE at c3
    have hg3 : w.heap.size < w3.heap.size := (Array.getElem?_eq_some_iff.1 HX3.out).1
    have hBB := HW.out.base
    go_wp2_with fail
    have HBf := Lib.hid (four_db HB3.out hBB.2 (.string ⟨#[118]⟩) (.int .i64 0) (.string s) (.slice none 0 0))
    have HOf := Lib.hid (four_only HO3.out (Nat.le_refl _) (.string ⟨#[118]⟩) (.int .i64 0) (.string s) (.slice none 0 0))
    have hkf := four_heap HX3.out (.string ⟨#[118]⟩) (.int .i64 0) (.string s) (.slice none 0 0)
    unfold fourE at HBf HOf hkf
    generalize (((w3.setCell ⟨w.heap.size, 0, none⟩ (.string ⟨#[118]⟩)).setCell ⟨w.heap.size, 1, none⟩ (.int .i64 0)).setCell ⟨w.heap.size, 2, none⟩ (.string s)).setCell ⟨w.heap.size, 3, none⟩ (.slice none 0 0) = wf at *
    have cf : ∀ j, wf.cell? ⟨w.heap.size, j, none⟩ = #[Value.string ⟨#[118]⟩, .int .i64 0, .string s, .slice none 0 0][j]? := fun j => by simp [World.cell?, hkf]
    refine bodyPost_ret (v := .agg #[.string ⟨#[118]⟩, .int .i64 0, .string s, .slice none 0 0]) (by simp [results, Tryd.results46, go_sem, cf]) rfl ⟨⟨#[118]⟩, s, 0, none, 0, 0, rfl, HBf.out.more' (by omega), HOf.out⟩
  | true =>
    have hkb : k + 1 ≤ 4611686018427387904 := by omega
    have hkc : k + 2 + C ≤ 4611686018427387904 := by omega
    have H2 := Lib.hid (show (gd < w2.heap.size ∧ gd ≠ b ∧ gp < w2.heap.size ∧ gp ≠ b) ∧ w2.cell? ⟨gd, 0, none⟩ = some (.pointer (some ⟨b, 0, none⟩)) ∧ w2.cell? ⟨gp, 0, none⟩ = some (.int .i64 deep) from ⟨⟨hgd2, hnd, hgp2, hnp⟩, hd2, hp2⟩)
    have hr0 := Only.refl b w2
    have HNG := Lib.hid (show gd ≠ w.heap.size ∧ gp ≠ w.heap.size from ⟨by omega, by omega⟩)
    have HG := Lib.hid HW.out.base.2
    generalize hg2 : w.heap.size = g2 at *
    have HG2 := Lib.hid (Nat.le_of_eq hg2)
    clear hg2
    go_upto_region 2 with fail
    go_cut [] (fun wx => ∃ (op nm : ByteArray) (n : Int) (A : Option Addr) (l c : Nat), wx.heap[g2]? = some (.cells #[.string op, .int .i64 n, .string nm, .slice A l c] 76 (0, 0)) ∧ DB wx b B (k + C + 3) ∧ Only b w wx)
    case first =>
      go_region_held3 (fun W => W.cell? ⟨gd, 0, none⟩ = some (.pointer (some ⟨b, 0, none⟩)) ∧ W.cell? ⟨gp, 0, none⟩ = some (.int .i64 deep)) (first | (with_reducible exact two_al (two_four (two_s hx5 H2.out) HNG.out _ _ _ _) _) | (have hz := two_s hx5 H2.out; with_reducible assumption) | (have hz := two_s hx4 H2.out; with_reducible assumption) | (with_reducible exact two_s hr0.drew H2.out) | (with_reducible exact two_s (hr0.drew.alloc _) H2.out) | (with_reducible exact two_s (hr0.alloc _).drew H2.out) | (with_reducible exact two_s (hx5.alloc _) H2.out) | (with_reducible exact two_s (hx4.alloc _) H2.out))
        (first
          | (go_at_call 17; refine (of_d b B (k + 1) [⟨#[108]⟩, ⟨#[109]⟩] _ w2 ?db hkb (by decide) (by decide) rfl).mono ?_; (case db => with_reducible exact HB2.out); rintro e w4 ⟨s, rfl, hs, hb4, ho4⟩; have HB4 := Lib.hid hb4; have hx4 : Only b w2 w4 := (by first | (with_reducible exact ho4) | (with_reducible exact only_drew ho4)); clear hs hb4 ho4)
          | (go_at_call 28; refine (HE.out _ (k + 2) ?db2 hkc).mono ?_; (case db2 => with_reducible exact HB4.out); rintro e w5 ⟨op, nm, n, A, l, c, rfl, hb5, ho5⟩; have HB5 := Lib.hid hb5; have hx5 : Only b w2 w5 := (by with_reducible exact hx4.trans ho5); have HX5 := Lib.hid (EB.only HX2.out hx5 hgb); have l9 : g2 < w5.heap.size := EB.lt HX5.out; obtain ⟨c9, z9⟩ := EB.cells HX5.out; unfold zeroE at c9; clear hb5 ho5))
      all_goals (go_wp2_with fail; go_meet)
      exact ⟨⟨#[101]⟩, s, 0, some ⟨w5.heap.size, 0, none⟩, 1, 1, four_alloc HX5.out _, ((four_db HB5.out HG.out _ _ _ _).keep ((Below.refl _ _).alloc (Nat.le_refl _) _)).more' (by omega), (four_only (HO2.out.trans hx5) HG2.out _ _ _ _).alloc _⟩
    case rest =>
      obtain ⟨op, nm, n, A, l, c, hkf, hbf, hof⟩ := hcut
      have HBf := Lib.hid hbf
      have HOf := Lib.hid hof
      have cf : ∀ j, wc.cell? ⟨g2, j, none⟩ = #[Value.string op, .int .i64 n, .string nm, .slice A l c][j]? := fun j => by simp [World.cell?, hkf]
      clear hbf hof hkf
      go_wp2_with fail
      refine bodyPost_ret (v := .agg #[.string op, .int .i64 n, .string nm, .slice A l c]) (by simp [results, Tryd.results46, go_sem, cf]) rfl ⟨op, nm, n, A, l, c, rfl, HBf.out, HOf.out⟩

end Go.Proofs.YtbgmjmooifjhjaaDoor
