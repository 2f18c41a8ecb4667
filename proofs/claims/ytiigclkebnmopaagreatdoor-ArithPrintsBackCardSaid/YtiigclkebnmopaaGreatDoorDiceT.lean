/- The law's dice build expressions: what is built is a tree in memory that has the form of an expression. -/
import Derived.Test.YtiigclkebnmopaaGreatDoorDiceA
import Derived.Test.YtiigclkebnmopaaGreatDoorArPre
import Derived.Test.YtiigclkebnmopaaGreatDoorArDok
import Derived.Deep.RegionHeld3
import Derived.Deep.DeepCutAuto
namespace Go.Proofs.YtiigclkebnmopaaGreatDoor
open Go.RowKit Go.Shelf

/-- the dice lie in their box; at most k rolls were made, and k things taken -/
def DB (w : World) (b B k : Nat) : Prop := ∃ A n c i left, (b < B ∧ B ≤ w.heap.size ∧ (0 < n → ∀ a, A = some a → a.block < B)) ∧ DW w b A n c i left ∧ n ≤ 9223372036854775807 ∧ 0 ≤ i ∧ i ≤ (k : Int) ∧ -(k : Int) ≤ left ∧ left ≤ 100
theorem DB.more' {w : World} {b B k : Nat} (h : DB w b B k) {m : Nat} (hm : k ≤ m) : DB w b B m := by
  obtain ⟨A, n, c, i, left, h0, h1, h2, h3, h4, h5, h6⟩ := h
  exact ⟨A, n, c, i, left, h0, h1, h2, h3, by omega, by omega, h6⟩
theorem DB.lt {w : World} {b B k : Nat} (h : DB w b B k) : b < w.heap.size := by
  obtain ⟨A, n, c, i, left, _, h1, _⟩ := h
  exact (Array.getElem?_eq_some_iff.1 h1.box).1
theorem DB.base {w : World} {b B k : Nat} (h : DB w b B k) : b < B ∧ B ≤ w.heap.size := by
  obtain ⟨A, n, c, i, left, h0, _⟩ := h
  exact ⟨h0.1, h0.2.1⟩
theorem DB.set_ {w : World} {b B k g : Nat} (h : DB w b B k) (hg : B ≤ g) (i0 : Nat) (u : Value) : DB (w.setCell ⟨g, i0, none⟩ u) b B k := by
  obtain ⟨A, n, c, i, left, ⟨h0, h0b, h0c⟩, h1, h2⟩ := h
  refine ⟨A, n, c, i, left, ⟨h0, by simpa [World.setCell] using h0b, h0c⟩, ⟨(heap_setCell_other w ⟨g, i0, none⟩ b u (fun e => by have : b = g := e; omega)).trans h1.box, fun hn => ?_, h1.cap⟩, h2⟩
  obtain ⟨g', off, rfl, hl, hgb, hx⟩ := h1.raw hn
  have hlt := h0c hn _ rfl
  refine ⟨g', off, rfl, by simpa [World.setCell] using hl, hgb, fun j hj => ?_⟩
  obtain ⟨x, hx⟩ := hx j hj
  exact ⟨x, (World.cell?_of_block (a := ⟨g', off + j, none⟩) (heap_setCell_other w ⟨g, i0, none⟩ g' u (fun e => by have e2 : g' = g := e; have h3 : g' < B := hlt; omega))).trans hx⟩
theorem DB.keep {w w' : World} {b B k : Nat} (h : DB w b B k) (hb : Below w.heap.size w w') : DB w' b B k := by
  have hlt := h.lt
  obtain ⟨A, n, c, i, left, h0, h1, h2⟩ := h
  exact ⟨A, n, c, i, left, ⟨h0.1, Nat.le_trans h0.2.1 hb.size, h0.2.2⟩, h1.only (Only.of hb (Nat.le_refl _)) ((hb.block b hlt).trans h1.box), h2⟩
theorem Only.alloc {b : Nat} {a w : World} (h : Only b a w) (o : Obj) : Only b a (w.alloc o) := h.trans (Only.of ((Below.refl _ w).alloc (Nat.le_refl _) o) (Nat.le_refl _))
theorem Only.keep {b : Nat} {a w w' : World} (h : Only b a w) (hb : Below w.heap.size w w') : Only b a w' := h.trans (Only.of hb (Nat.le_refl _))

theorem roll_b (b B k : Nat) (m : Int) (w : World) (h : DB w b B k) (hk : k ≤ 4611686018427387904) (h1 : 1 ≤ m) (h2 : m ≤ 1000000) :
    Calls Tryz.prog 37 #[.pointer (some ⟨b, 0, none⟩), .int .i64 m] w fun e w' => ∃ r : Int, e = .returned (.int .i64 r) ∧ 0 ≤ r ∧ r < m ∧ DB w' b B (k + 1) ∧ Only b w w' := by
  obtain ⟨A, n, c, i, left, h0, hd, h3, h4, h5, h6, h7⟩ := h
  refine (roll_any b A n c i left m w hd h3 h4 (by omega) h1 h2).mono ?_
  rintro e w' ⟨r, i', rfl, hr1, hr2, hi1, hi2, hd', ho⟩
  exact ⟨r, rfl, hr1, hr2, ⟨A, n, c, i', left, ⟨h0.1, Nat.le_trans h0.2.1 ho.size, h0.2.2⟩, hd', h3, by omega, by omega, by omega, h7⟩, ho⟩
theorem more_b (b B k : Nat) (w : World) (h : DB w b B k) (hk : k ≤ 4611686018427387904) :
    Calls Tryz.prog 36 #[.pointer (some ⟨b, 0, none⟩)] w fun e w' => ∃ q : Bool, e = .returned (.bool q) ∧ DB w' b B (k + 1) ∧ Only b w w' := by
  obtain ⟨A, n, c, i, left, h0, hd, h3, h4, h5, h6, h7⟩ := h
  refine (dmore_any b A n c i left w hd (by omega) (by omega)).mono ?_
  rintro e w' ⟨rfl, hd', ho⟩
  exact ⟨_, rfl, ⟨A, n, c, i, left - 1, ⟨h0.1, Nat.le_trans h0.2.1 ho.size, h0.2.2⟩, hd', h3, h4, by omega, by omega, by omega⟩, ho⟩
/-- one of the texts of a new literal -/
theorem of_b (b B k : Nat) (L : List ByteArray) (cs : Array Value) (w : World) (h : DB w b B k) (hk : k ≤ 4611686018427387904) (h1 : 1 ≤ L.length) (h2 : L.length ≤ 1000) (hcs : cs = (L.map Value.string).toArray) :
    Calls Tryz.prog 38 #[.pointer (some ⟨b, 0, none⟩), .slice (some ⟨w.heap.size, 0, none⟩) L.length L.length] (w.alloc (.cells cs 9)) fun e w' => ∃ s : ByteArray, e = .returned (.string s) ∧ s ∈ L ∧ DB w' b B (k + 1) ∧ Only b w w' := by
  have hlt := h.lt
  have hk2 := h.keep ((Below.refl _ w).alloc (Nat.le_refl _) (.cells cs 9))
  obtain ⟨A, n, c, i, left, h0, hd, h3, h4, h5, h6, h7⟩ := hk2
  have hcell : ∀ j (hj : j < L.length), (w.alloc (.cells cs 9)).cell? ⟨w.heap.size, 0 + j, none⟩ = some (.string L[j]) := fun j hj => by
    have hh := heap_alloc_new w (.cells cs 9)
    rw [Nat.zero_add]
    unfold World.cell?
    dsimp only
    rw [hh]
    show cs[j]? = _
    subst hcs
    simp [hj]
  refine (of_any b A n c i left L w.heap.size 0 L.length _ hd h3 h4 (by omega) h1 h2 (by simp) (by omega) hcell).mono ?_
  rintro e w' ⟨s, i', rfl, hs, hi1, hi2, hd', ho⟩
  exact ⟨s, rfl, hs, ⟨A, n, c, i', left, ⟨h0.1, Nat.le_trans h0.2.1 ho.size, h0.2.2⟩, hd', h3, by omega, by omega, by omega, h7⟩, (Only.of ((Below.refl _ w).alloc (Nat.le_refl _) _) (Nat.le_refl _)).trans ho⟩
/-- one of the texts of a new literal -/
theorem of_d (b B k : Nat) (L : List ByteArray) (cs : Array Value) (w : World) (h : DB w b B k) (hk : k ≤ 4611686018427387904) (h1 : 1 ≤ L.length) (h2 : L.length ≤ 1000) (hcs : cs = (L.map Value.string).toArray) :
    Calls Tryz.prog 38 #[.pointer (some ⟨b, 0, none⟩), .slice (some ⟨w.heap.size, 0, none⟩) L.length L.length] ((w.alloc (.cells cs 9)).drew) fun e w' => ∃ s : ByteArray, e = .returned (.string s) ∧ s ∈ L ∧ DB w' b B (k + 1) ∧ Only b w w' := by
  have hlt := h.lt
  have hk2 := h.keep (((Below.refl _ w).alloc (Nat.le_refl _) (.cells cs 9)).drew)
  obtain ⟨A, n, c, i, left, h0, hd, h3, h4, h5, h6, h7⟩ := hk2
  have hcell : ∀ j (hj : j < L.length), ((w.alloc (.cells cs 9)).drew).cell? ⟨w.heap.size, 0 + j, none⟩ = some (.string L[j]) := fun j hj => by
    have hh := heap_alloc_new w (.cells cs 9)
    rw [Nat.zero_add]
    show (w.alloc (.cells cs 9)).cell? _ = _
    unfold World.cell?
    dsimp only
    rw [hh]
    show cs[j]? = _
    subst hcs
    simp [hj]
  refine (of_any b A n c i left L w.heap.size 0 L.length _ hd h3 h4 (by omega) h1 h2 (by show w.heap.size < (w.alloc _).heap.size; simp) (by omega) hcell).mono ?_
  rintro e w' ⟨s, i', rfl, hs, hi1, hi2, hd', ho⟩
  exact ⟨s, rfl, hs, ⟨A, n, c, i', left, ⟨h0.1, Nat.le_trans h0.2.1 ho.size, h0.2.2⟩, hd', h3, by omega, by omega, by omega, h7⟩, (Only.of (((Below.refl _ w).alloc (Nat.le_refl _) _).drew) (Nat.le_refl _)).trans ho⟩
/-- a tree's own parts lie in a block apart from all that its parts hold -/
def Top (q : Nat) (w : World) (v : Value) (x : Ex) : Prop := x.args ≠ [] → ∃ (v0 v1 v2 : Value) (g c : Nat) (cs : Array Value) (T : TypeId), v = .agg #[v0, v1, v2, .slice (some ⟨g, 0, none⟩) x.args.length c] ∧ w.heap[g]? = some (.cells cs T (0, 0)) ∧ q < g ∧ ExL (fun k => q < k ∧ k ≠ g) w g 0 x.args
/-- an expression of that depth in memory, in new blocks -/
def XD (q : Nat) (w : World) (v : Value) (d : Int) : Prop := ∃ x, ExV (fun g => q < g) w v x ∧ DOk d x ∧ Top q w v x
def XG (q : Nat) (w : World) (v : Value) (d : Int) : Prop := ∃ x, ExV (fun g => q < g) w v x ∧ DOk d x ∧ target x = true
/-- what building an expression leaves -/
def EP (b B m : Nat) (d : Int) (w : World) (e : Ending) (w' : World) : Prop := ∃ (op nm : ByteArray) (n : Int) (A : Option Addr) (l c : Nat), e = .returned (.agg #[.string op, .int .i64 n, .string nm, .slice A l c]) ∧ DB w' b B m ∧ Only b w w' ∧ ∀ q, q < w.heap.size → b ≤ q → XD q w' (.agg #[.string op, .int .i64 n, .string nm, .slice A l c]) d
/-- .. a goal -/
def GP (b B m : Nat) (d : Int) (w : World) (e : Ending) (w' : World) : Prop := ∃ (op nm : ByteArray) (n : Int) (A : Option Addr) (l c : Nat), e = .returned (.agg #[.string op, .int .i64 n, .string nm, .slice A l c]) ∧ DB w' b B m ∧ Only b w w' ∧ ∀ q, q < w.heap.size → b ≤ q → XG q w' (.agg #[.string op, .int .i64 n, .string nm, .slice A l c]) d
theorem Only.cell {b : Nat} {w w' : World} (h : Only b w w') {g i : Nat} (hg : g < w.heap.size) (hgb : g ≠ b) : w'.cell? ⟨g, i, none⟩ = w.cell? ⟨g, i, none⟩ := World.cell?_of_block (a := ⟨g, i, none⟩) (h.block g hg hgb)
/-- the expression's box, with nothing in it -/
def zeroE : Array Value := #[.string ⟨#[]⟩, .int .i64 0, .string ⟨#[]⟩, .slice none 0 0]
def EB (w : World) (g : Nat) : Prop := w.heap[g]? = some (.cells zeroE 25 (0, 0))
theorem EB.cells {w : World} {g : Nat} (h : EB w g) : (∀ j, w.cell? ⟨g, j, none⟩ = zeroE[j]?) ∧ (∀ j, w.frozen? ⟨g, j, none⟩ = false) := ⟨fun j => by unfold EB at h; simp [World.cell?, h], fun j => by unfold EB at h; simp [World.frozen?, h]⟩
theorem EB.lt {w : World} {g : Nat} (h : EB w g) : g < w.heap.size := (Array.getElem?_eq_some_iff.1 h).1
theorem EB.only {b g : Nat} {w w' : World} (h : EB w g) (ho : Only b w w') (hgb : g ≠ b) : EB w' g := (ho.block g (Array.getElem?_eq_some_iff.1 h).1 hgb).trans h

abbrev fourE (w : World) (g : Nat) (v0 v1 v2 v3 : Value) : World := (((w.setCell ⟨g, 0, none⟩ v0).setCell ⟨g, 1, none⟩ v1).setCell ⟨g, 2, none⟩ v2).setCell ⟨g, 3, none⟩ v3
theorem four_heap {w : World} {g : Nat} (h : EB w g) (v0 v1 v2 v3 : Value) : (fourE w g v0 v1 v2 v3).heap[g]? = some (.cells #[v0, v1, v2, v3] 25 (0, 0)) := by
  rw [heap_setCell_same _ _ _ _ _ _ (heap_setCell_same _ _ _ _ _ _ (heap_setCell_same _ _ _ _ _ _ (heap_setCell_same _ _ _ _ _ _ h)))]
  rfl
theorem four_db {w : World} {b B k g : Nat} (h : DB w b B k) (hg : B ≤ g) (v0 v1 v2 v3 : Value) : DB (fourE w g v0 v1 v2 v3) b B k := (((h.set_ hg 0 _).set_ hg 1 _).set_ hg 2 _).set_ hg 3 _
theorem only_nw {b g i : Nat} {a w : World} (h : Only b a w) (hg : a.heap.size ≤ g) (v : Value) : Only b a (w.setCell ⟨g, i, none⟩ v) :=
  ⟨h.os, h.tape, h.output, by simpa [World.setCell] using h.size, fun k hk hb => (heap_setCell_other w ⟨g, i, none⟩ k v (fun e => by have e2 : k = g := e; omega)).trans (h.block k hk hb)⟩
theorem four_only {b g : Nat} {a w : World} (h : Only b a w) (hg : a.heap.size ≤ g) (v0 v1 v2 v3 : Value) : Only b a (fourE w g v0 v1 v2 v3) := only_nw (only_nw (only_nw (only_nw h hg _) hg _) hg _) hg _

theorem only_drew {b : Nat} {a w : World} (h : Only b a.drew w) : Only b a w := ⟨h.os, h.tape, h.output, h.size, h.block⟩
theorem Only.drew {b : Nat} {a w : World} (h : Only b a w) : Only b a w.drew := ⟨h.os, h.tape, h.output, h.size, h.block⟩
theorem two_s {b gd gp : Nat} {deep : Int} {a w : World} (ho : Only b a w) (h : (gd < a.heap.size ∧ gd ≠ b ∧ gp < a.heap.size ∧ gp ≠ b) ∧ a.cell? ⟨gd, 0, none⟩ = some (.pointer (some ⟨b, 0, none⟩)) ∧ a.cell? ⟨gp, 0, none⟩ = some (.int .i64 deep)) :
    w.cell? ⟨gd, 0, none⟩ = some (.pointer (some ⟨b, 0, none⟩)) ∧ w.cell? ⟨gp, 0, none⟩ = some (.int .i64 deep) :=
  ⟨(ho.cell h.1.1 h.1.2.1).trans h.2.1, (ho.cell h.1.2.2.1 h.1.2.2.2).trans h.2.2⟩

theorem two_four {b gd gp g : Nat} {deep : Int} {w : World} (h : w.cell? ⟨gd, 0, none⟩ = some (.pointer (some ⟨b, 0, none⟩)) ∧ w.cell? ⟨gp, 0, none⟩ = some (.int .i64 deep)) (n : gd ≠ g ∧ gp ≠ g) (v0 v1 v2 v3 : Value) :
    (fourE w g v0 v1 v2 v3).cell? ⟨gd, 0, none⟩ = some (.pointer (some ⟨b, 0, none⟩)) ∧ (fourE w g v0 v1 v2 v3).cell? ⟨gp, 0, none⟩ = some (.int .i64 deep) := by
  have ho : ∀ k, k ≠ g → (fourE w g v0 v1 v2 v3).heap[k]? = w.heap[k]? := fun k hk =>
    (heap_setCell_other _ ⟨g, 3, none⟩ k v3 hk).trans ((heap_setCell_other _ ⟨g, 2, none⟩ k v2 hk).trans ((heap_setCell_other _ ⟨g, 1, none⟩ k v1 hk).trans (heap_setCell_other _ ⟨g, 0, none⟩ k v0 hk)))
  exact ⟨(World.cell?_of_block (a := ⟨gd, 0, none⟩) (ho gd n.1)).trans h.1, (World.cell?_of_block (a := ⟨gp, 0, none⟩) (ho gp n.2)).trans h.2⟩

theorem four_alloc {w : World} {g : Nat} (h : EB w g) {v0 v1 v2 v3 : Value} (o : Obj) : ((fourE w g v0 v1 v2 v3).alloc o).heap[g]? = some (.cells #[v0, v1, v2, v3] 25 (0, 0)) := by
  have hh := four_heap h v0 v1 v2 v3
  have hb : g < (fourE w g v0 v1 v2 v3).heap.size := (Array.getElem?_eq_some_iff.1 hh).1
  exact (((Below.refl _ (fourE w g v0 v1 v2 v3)).alloc (Nat.le_refl _) o).block g hb).trans hh
theorem some_alloc {w : World} {p : Addr} {v : Value} (h : w.cell? p = some v) (o : Obj) : (w.alloc o).cell? p = some v := by
  have hb : p.block < w.heap.size := by
    unfold World.cell? at h
    cases hh : w.heap[p.block]? with
    | none => rw [hh] at h; cases h
    | some x => exact (Array.getElem?_eq_some_iff.1 hh).1
  exact (((Below.refl _ w).alloc (Nat.le_refl _) o).cell hb).trans h
theorem two_al {gd gp : Nat} {v u : Value} {w : World} (h : w.cell? ⟨gd, 0, none⟩ = some v ∧ w.cell? ⟨gp, 0, none⟩ = some u) (o : Obj) : (w.alloc o).cell? ⟨gd, 0, none⟩ = some v ∧ (w.alloc o).cell? ⟨gp, 0, none⟩ = some u := ⟨some_alloc h.1 o, some_alloc h.2 o⟩


/-- the parts of an expression that are built already -/
def Kids (q : Nat) (w : World) (ks : List (Value × Ex)) : Prop := ∀ p ∈ ks, ExV (fun g => q < g) w p.1 p.2
theorem Kids.nil (q : Nat) (w : World) : Kids q w [] := fun _ h => by cases h
theorem Kids.only {b q : Nat} {w w' : World} {ks : List (Value × Ex)} (h : Kids q w ks) (ho : Only b w w') (hb : b ≤ q) : Kids q w' ks := fun p hp =>
  ExV.keep ho.size (fun g hg hl => ⟨ho.block g hl (by omega), hg⟩) p.2 (h p hp)
theorem Kids.add {q : Nat} {w : World} {ks : List (Value × Ex)} {v : Value} {x : Ex} (h : Kids q w ks) (hx : ExV (fun g => q < g) w v x) : Kids q w (ks ++ [(v, x)]) := fun p hp => by
  rcases List.mem_append.1 hp with hp | hp
  · exact h p hp
  · rw [List.mem_singleton.1 hp]; exact hx
/-- an expression is stored: its head in block g, its parts in a new block -/
theorem four_kids {q g : Nat} {w : World} {ks : List (Value × Ex)} (h : Kids q w ks) (hg : g ≤ q) (v0 v1 v2 v3 : Value) : Kids q (fourE w g v0 v1 v2 v3) ks := fun p hp => by
  refine ExV.keep (by simp [World.setCell]) (fun k hk hl => ⟨?_, hk⟩) p.2 (h p hp)
  have hne : k ≠ g := by omega
  exact (heap_setCell_other _ ⟨g, 3, none⟩ k v3 hne).trans ((heap_setCell_other _ ⟨g, 2, none⟩ k v2 hne).trans ((heap_setCell_other _ ⟨g, 1, none⟩ k v1 hne).trans (heap_setCell_other _ ⟨g, 0, none⟩ k v0 hne)))
theorem Kids.alloc {q : Nat} {w : World} {ks : List (Value × Ex)} (h : Kids q w ks) (o : Obj) : Kids q (w.alloc o) ks := fun p hp => (h p hp).below ((Below.refl _ w).alloc (Nat.le_refl _) o)
/-- four cells of one expression -/
def four (p : Value × Ex) : List Value := match p.1 with
  | .agg ⟨l⟩ => l
  | _ => []
theorem exl_cells {P : Nat → Prop} {w : World} {g : Nat} : ∀ (ks : List (Value × Ex)) (off : Nat), (∀ p ∈ ks, ExV P w p.1 p.2) → (∀ p ∈ ks, ∃ a b c d, p.1 = .agg #[a, b, c, d]) → (∀ j, j < (ks.flatMap four).length → w.cell? ⟨g, off + j, none⟩ = (ks.flatMap four)[j]?) → ExL P w g off (ks.map Prod.snd)
  | [], off, _, _, _ => by unfold ExL; trivial
  | p :: r, off, hx, hf, hc => by
    obtain ⟨v, x⟩ := p
    obtain ⟨a, b, c, d, hv⟩ := hf (v, x) (by simp)
    have hv' : v = .agg #[a, b, c, d] := hv
    subst hv'
    have e : ((Value.agg #[a, b, c, d], x) :: r).flatMap four = a :: b :: c :: d :: r.flatMap four := by
      rw [List.flatMap_cons]
      rfl
    rw [e] at hc
    have hlen : (a :: b :: c :: d :: r.flatMap four).length = (r.flatMap four).length + 4 := rfl
    rw [hlen] at hc
    show ExL P w g off (x :: r.map Prod.snd)
    unfold ExL
    refine ⟨⟨a, b, c, d, by simpa using hc 0 (by omega), by simpa using hc 1 (by omega), by simpa using hc 2 (by omega), by simpa using hc 3 (by omega), hx (.agg #[a, b, c, d], x) (by simp)⟩, ?_⟩
    refine exl_cells r (off + 4) (fun p hp => hx p (by simp [hp])) (fun p hp => hf p (by simp [hp])) fun j hj => ?_
    have := hc (j + 4) (by omega)
    rw [show off + (j + 4) = off + 4 + j by omega] at this
    simpa using this
theorem node_ex {q g : Nat} {w : World} {ks : List (Value × Ex)} (h : Kids q w ks) (hg : g ≤ q) (hq : q < w.heap.size) (v0 v1 v2 v3 : Value) (op nm : ByteArray) (n : Int) (k : Nat) (hk : k = ks.length) (T : TypeId) (cs : Array Value) (hcs : cs = (ks.flatMap four).toArray) :
    ExV (fun g => q < g) ((fourE w g v0 v1 v2 v3).alloc (.cells cs T)) (.agg #[.string op, .int .i64 n, .string nm, .slice (some ⟨w.heap.size, 0, none⟩) k k]) (.mk op.data.toList n nm.data.toList (ks.map Prod.snd)) := by
  have hf : ∀ p ∈ ks, ∃ a b c d, p.1 = .agg #[a, b, c, d] := fun p hp => by
    obtain ⟨_, _, _, _, _, h1, _⟩ := (h p hp).form
    exact ⟨_, _, _, _, h1⟩
  have hs : (fourE w g v0 v1 v2 v3).heap.size = w.heap.size := by simp [World.setCell]
  have hK := (four_kids h hg v0 v1 v2 v3).alloc (.cells cs T)
  unfold ExV
  refine ⟨some ⟨w.heap.size, 0, none⟩, k, by rw [hk, List.length_map]; rfl, by rw [hk, List.length_map]; exact Nat.le_refl _, fun _ => ⟨w.heap.size, 0, rfl, hq, by simp [World.setCell], ?_⟩⟩
  refine exl_cells ks 0 hK hf fun j hj => ?_
  have hh := heap_alloc_new (fourE w g v0 v1 v2 v3) (.cells cs T)
  rw [hs] at hh
  unfold World.cell?
  dsimp only
  rw [hh, Nat.zero_add, hcs]
  simp

theorem node_top {q g : Nat} {w : World} {ks : List (Value × Ex)} (h : Kids q w ks) (hg : g ≤ q) (hq : q < w.heap.size) (v0 v1 v2 v3 : Value) (op nm : ByteArray) (n : Int) (k : Nat) (hk : k = ks.length) (T : TypeId) (cs : Array Value) (hcs : cs = (ks.flatMap four).toArray) :
    Top q ((fourE w g v0 v1 v2 v3).alloc (.cells cs T)) (.agg #[.string op, .int .i64 n, .string nm, .slice (some ⟨w.heap.size, 0, none⟩) k k]) (.mk op.data.toList n nm.data.toList (ks.map Prod.snd)) := fun _ => by
  have hf : ∀ p ∈ ks, ∃ a b c d, p.1 = .agg #[a, b, c, d] := fun p hp => by
    obtain ⟨_, _, _, _, _, h1, _⟩ := (h p hp).form
    exact ⟨_, _, _, _, h1⟩
  have hs : (fourE w g v0 v1 v2 v3).heap.size = w.heap.size := by simp [World.setCell]
  have hh := heap_alloc_new (fourE w g v0 v1 v2 v3) (.cells cs T)
  rw [hs] at hh
  have hK : ∀ p ∈ ks, ExV (fun k => q < k ∧ k ≠ w.heap.size) ((fourE w g v0 v1 v2 v3).alloc (.cells cs T)) p.1 p.2 := fun p hp => by
    refine ExV.keep (P := fun k => q < k) (by simp [World.setCell]) (fun k hk hl => ⟨?_, hk, by omega⟩) p.2 (h p hp)
    have hne : k ≠ g := by have h2 : q < k := hk; omega
    exact (((Below.refl _ (fourE w g v0 v1 v2 v3)).alloc (Nat.le_refl _) (.cells cs T)).block k (by rw [hs]; exact hl)).trans ((heap_setCell_other _ ⟨g, 3, none⟩ k v3 hne).trans ((heap_setCell_other _ ⟨g, 2, none⟩ k v2 hne).trans ((heap_setCell_other _ ⟨g, 1, none⟩ k v1 hne).trans (heap_setCell_other _ ⟨g, 0, none⟩ k v0 hne))))
  refine ⟨.string op, .int .i64 n, .string nm, w.heap.size, k, cs, T, by rw [hk]; simp [Ex.args], hh, hq, ?_⟩
  refine exl_cells ks 0 hK hf fun j hj => ?_
  unfold World.cell?
  dsimp only
  rw [hh, Nat.zero_add, hcs]
  simp
theorem flat_top {q : Nat} {w : World} (op nm : ByteArray) (n : Int) : Top q w (.agg #[.string op, .int .i64 n, .string nm, .slice none 0 0]) (.mk op.data.toList n nm.data.toList []) := fun h => absurd rfl h
theorem Top.less {q q' : Nat} {w : World} {v : Value} {x : Ex} (h : Top q w v x) (hq : q' ≤ q) : Top q' w v x := fun h0 => by
  obtain ⟨v0, v1, v2, g, c, cs, T, h1, h2, h3, h4⟩ := h h0
  exact ⟨v0, v1, v2, g, c, cs, T, h1, h2, by omega, ExL.keep (Nat.le_refl _) (fun k hk _ => ⟨rfl, by have := hk.1; omega, hk.2⟩) rfl _ h4⟩
theorem XD.less {q q' : Nat} {w : World} {v : Value} {d : Int} (h : XD q w v d) (hq : q' ≤ q) : XD q' w v d := by
  obtain ⟨x, hx, hd, ht⟩ := h
  exact ⟨x, hx.mono fun g hg _ => by show q' < g; have : q < g := hg; omega, hd, ht.less hq⟩
theorem XG.less {q q' : Nat} {w : World} {v : Value} {d : Int} (h : XG q w v d) (hq : q' ≤ q) : XG q' w v d := by
  obtain ⟨x, hx, hd⟩ := h
  exact ⟨x, hx.mono fun g hg _ => by show q' < g; have : q < g := hg; omega, hd⟩
theorem mem_bytes {s : ByteArray} {L : List ByteArray} (h : s ∈ L) : s.data.toList ∈ L.map (fun b => b.data.toList) := List.mem_map_of_mem h
theorem xyn {s : ByteArray} (h : s ∈ ([⟨#[120]⟩, ⟨#[121]⟩, ⟨#[110]⟩] : List ByteArray)) : varOk s.data.toList = true ∧ s.data.toList.length ≤ 16 ∧ target (.mk [118] 0 s.data.toList []) = true := by
  have : ∀ l ∈ ([[120], [121], [110]] : List (List UInt8)), varOk l = true ∧ l.length ≤ 16 ∧ target (.mk [118] 0 l []) = true := by decide
  exact this _ (mem_bytes h)
theorem lm_nm {s : ByteArray} (h : s ∈ ([⟨#[108]⟩, ⟨#[109]⟩] : List ByteArray)) : isNm s.data.toList = true ∧ s.data.toList.length ≤ 1 := by
  have : ∀ l ∈ ([[108], [109]] : List (List UInt8)), isNm l = true ∧ l.length ≤ 1 := by decide
  exact this _ (mem_bytes h)
theorem lx_nm {s : ByteArray} (h : s ∈ ([⟨#[108]⟩, ⟨#[120]⟩] : List ByteArray)) : isNm s.data.toList = true ∧ s.data.toList.length ≤ 1 := by
  have : ∀ l ∈ ([[108], [120]] : List (List UInt8)), isNm l = true ∧ l.length ≤ 1 := by decide
  exact this _ (mem_bytes h)
theorem goal_node {q : Nat} {w : World} {op nm s : ByteArray} {n : Int} {A : Option Addr} {l c : Nat} {deep : Int} (h : XD q w (.agg #[.string op, .int .i64 n, .string nm, .slice A l c]) (deep - 2)) (hs : s ∈ ([⟨#[108]⟩, ⟨#[109]⟩] : List ByteArray)) (hq : q < w.heap.size) (hd : 0 < deep) (v0 v1 v2 v3 : Value) (T : TypeId) :
    XG q ((fourE w q v0 v1 v2 v3).alloc (.cells #[.string op, .int .i64 n, .string nm, .slice A l c] T)) (.agg #[.string ⟨#[101]⟩, .int .i64 0, .string s, .slice (some ⟨w.heap.size, 0, none⟩) 1 1]) (deep - 1) := by
  obtain ⟨x, hx, hk, _⟩ := h
  have hn := node_ex (q := q) (g := q) (w := w) (ks := [(.agg #[.string op, .int .i64 n, .string nm, .slice A l c], x)]) (fun p hp => by rw [List.mem_singleton.1 hp]; exact hx) (Nat.le_refl _) hq v0 v1 v2 v3 ⟨#[101]⟩ s 0 1 rfl T #[.string op, .int .i64 n, .string nm, .slice A l c] rfl
  exact ⟨_, hn, DOk.elem (by omega) (lm_nm hs).1 (lm_nm hs).2 (by rw [show deep - 1 - 1 = deep - 2 by omega]; exact hk), rfl⟩

set_option maxRecDepth 100000 in
set_option maxHeartbeats 1600000 in
theorem goal_any (b B k gd gp C : Nat) (deep : Int) (w : World) (hd : w.cell? ⟨gd, 0, none⟩ = some (.pointer (some ⟨b, 0, none⟩))) (hp : w.cell? ⟨gp, 0, none⟩ = some (.int .i64 deep)) (hgd : gd < w.heap.size) (hgp : gp < w.heap.size) (hnd : gd ≠ b) (hnp : gp ≠ b)
    (h : DB w b B k) (hk : k + C + 3 ≤ 4611686018427387904) (hdp : 0 < deep) (hdp2 : deep ≤ 100) (hE : ∀ W k', DB W b B k' → k' + C ≤ 4611686018427387904 → Calls Tryz.prog 12 #[.pointer (some ⟨b, 0, none⟩), .int .i64 (deep - 2)] W (EP b B (k' + C) (deep - 2) W)) :
    Calls Tryz.prog 39 #[.pointer (some ⟨gd, 0, none⟩), .pointer (some ⟨gp, 0, none⟩)] w (GP b B (k + C + 3) (deep - 1) w) := by
  have hlt := h.lt
  have e1 : IntKind.i64.wrap (deep - 2) = deep - 2 := IntWalk.i64_in _ (by omega)
  have HE := Lib.hid hE
  have HW := Lib.hid h
  clear h hE
  go_enter Tryz.func39, Tryz.ntmps39
  go_wp2_with fail
  have HB1 := Lib.hid (HW.out.keep ((Below.refl _ w).alloc (Nat.le_refl _) (.cells zeroE 25)))
  have HX1 := Lib.hid (show EB (w.alloc (.cells zeroE 25)) w.heap.size from heap_alloc_new w _)
  have HO1 := Lib.hid ((Only.refl b w).alloc (.cells zeroE 25))
  refine (roll_b b B k 3 _ HB1.out (by omega) (by omega) (by omega)).mono ?_
  rintro e w2 ⟨r, rfl, hr1, hr2, hb2, ho2⟩
  have HO2 := Lib.hid (HO1.out.trans ho2)
  have HB2 := Lib.hid hb2
  have hgb : w.heap.size ≠ b := by omega
  have HX2 := Lib.hid (HX1.out.only ho2 hgb)
  have hd2 := (HO2.out.cell (i := 0) hgd hnd).trans hd
  have hp2 := (HO2.out.cell (i := 0) hgp hnp).trans hp
  have hgd2 : gd < w2.heap.size := Nat.lt_of_lt_of_le hgd HO2.out.size
  have hgp2 : gp < w2.heap.size := Nat.lt_of_lt_of_le hgp HO2.out.size
  clear hd hp hb2 ho2
  cases hr : (r == 0) with
  | false =>
    go_wp2_with fail
    refine (of_b b B (k + 1) [⟨#[120]⟩, ⟨#[121]⟩, ⟨#[110]⟩] _ w2 HB2.out (by omega) (by decide) (by decide) rfl).mono ?_
    rintro e w3 ⟨s, rfl, hs, hb3, ho3⟩
    have HO3 := Lib.hid (HO2.out.trans ho3)
    have HB3 := Lib.hid hb3
    have HX3 := Lib.hid (HX2.out.only ho3 hgb)
    have HS := Lib.hid hs
    clear hb3 ho3 hs
    obtain ⟨c3, z3⟩ := HX3.out.cells
    unfold zeroE at c3
    have hg3 : w.heap.size < w3.heap.size := (Array.getElem?_eq_some_iff.1 HX3.out).1
    have hBB := HW.out.base
    go_wp2_with fail
    have HBf := Lib.hid (four_db HB3.out hBB.2 (.string ⟨#[118]⟩) (.int .i64 0) (.string s) (.slice none 0 0))
    have HOf := Lib.hid (four_only HO3.out (Nat.le_refl _) (.string ⟨#[118]⟩) (.int .i64 0) (.string s) (.slice none 0 0))
    have hkf := four_heap HX3.out (.string ⟨#[118]⟩) (.int .i64 0) (.string s) (.slice none 0 0)
    unfold fourE at HBf HOf hkf
    generalize (((w3.setCell ⟨w.heap.size, 0, none⟩ (.string ⟨#[118]⟩)).setCell ⟨w.heap.size, 1, none⟩ (.int .i64 0)).setCell ⟨w.heap.size, 2, none⟩ (.string s)).setCell ⟨w.heap.size, 3, none⟩ (.slice none 0 0) = wf at *
    have cf : ∀ j, wf.cell? ⟨w.heap.size, j, none⟩ = #[Value.string ⟨#[118]⟩, .int .i64 0, .string s, .slice none 0 0][j]? := fun j => by simp [World.cell?, hkf]
    refine bodyPost_ret (v := .agg #[.string ⟨#[118]⟩, .int .i64 0, .string s, .slice none 0 0]) (by simp [results, Tryz.results39, go_sem, cf]) rfl ⟨⟨#[118]⟩, s, 0, none, 0, 0, rfl, HBf.out.more' (by omega), HOf.out, fun q _ _ => ⟨.mk [118] 0 s.data.toList [], ExV.flat _ _ [118] s.data.toList 0, DOk.var (by omega) (xyn HS.out).1 (xyn HS.out).2.1, (xyn HS.out).2.2⟩⟩
  | true =>
    have hkb : k + 1 ≤ 4611686018427387904 := by omega
    have hkc : k + 2 + C ≤ 4611686018427387904 := by omega
    have H2 := Lib.hid (show (gd < w2.heap.size ∧ gd ≠ b ∧ gp < w2.heap.size ∧ gp ≠ b) ∧ w2.cell? ⟨gd, 0, none⟩ = some (.pointer (some ⟨b, 0, none⟩)) ∧ w2.cell? ⟨gp, 0, none⟩ = some (.int .i64 deep) from ⟨⟨hgd2, hnd, hgp2, hnp⟩, hd2, hp2⟩)
    have hr0 := Only.refl b w2
    have HNG := Lib.hid (show gd ≠ w.heap.size ∧ gp ≠ w.heap.size from ⟨by omega, by omega⟩)
    have HG := Lib.hid HW.out.base.2
    generalize hg2 : w.heap.size = g2 at *
    have HG2 := Lib.hid (Nat.le_of_eq hg2)
    have HGB := Lib.hid (show b ≤ g2 by omega)
    clear hg2
    go_upto_region 2 with fail
    go_cut [] (fun wx => ∃ (op nm : ByteArray) (n : Int) (A : Option Addr) (l c : Nat), wx.heap[g2]? = some (.cells #[.string op, .int .i64 n, .string nm, .slice A l c] 25 (0, 0)) ∧ DB wx b B (k + C + 3) ∧ Only b w wx ∧ XG g2 wx (.agg #[.string op, .int .i64 n, .string nm, .slice A l c]) (deep - 1))
    case first =>
      go_region_held3 (fun W => W.cell? ⟨gd, 0, none⟩ = some (.pointer (some ⟨b, 0, none⟩)) ∧ W.cell? ⟨gp, 0, none⟩ = some (.int .i64 deep)) (first | (with_reducible exact two_al (two_four (two_s hx5 H2.out) HNG.out _ _ _ _) _) | (have hz := two_s hx5 H2.out; with_reducible assumption) | (have hz := two_s hx4 H2.out; with_reducible assumption) | (with_reducible exact two_s hr0.drew H2.out) | (with_reducible exact two_s (hr0.drew.alloc _) H2.out) | (with_reducible exact two_s (hr0.alloc _).drew H2.out) | (with_reducible exact two_s (hx5.alloc _) H2.out) | (with_reducible exact two_s (hx4.alloc _) H2.out))
        (first
          | (go_at_call 38; refine (of_d b B (k + 1) [⟨#[108]⟩, ⟨#[109]⟩] _ w2 ?db hkb (by decide) (by decide) rfl).mono ?_; (case db => with_reducible exact HB2.out); rintro e w4 ⟨s, rfl, hs, hb4, ho4⟩; have HB4 := Lib.hid hb4; have hx4 : Only b w2 w4 := (by first | (with_reducible exact ho4) | (with_reducible exact only_drew ho4)); have HS := Lib.hid hs; clear hs hb4 ho4)
          | (go_at_call 12; refine (HE.out _ (k + 2) ?db2 hkc).mono ?_; (case db2 => with_reducible exact HB4.out); rintro e w5 ⟨op, nm, n, A, l, c, rfl, hb5, ho5, hx⟩; have HXx := Lib.hid (hx g2 (EB.lt (EB.only HX2.out hx4 hgb)) HGB.out); clear hx; have HB5 := Lib.hid hb5; have hx5 : Only b w2 w5 := (by with_reducible exact hx4.trans ho5); have HX5 := Lib.hid (EB.only HX2.out hx5 hgb); have l9 : g2 < w5.heap.size := EB.lt HX5.out; obtain ⟨c9, z9⟩ := EB.cells HX5.out; unfold zeroE at c9; clear hb5 ho5))
      all_goals (go_wp2_with fail; go_meet)
      exact ⟨⟨#[101]⟩, s, 0, some ⟨w5.heap.size, 0, none⟩, 1, 1, four_alloc HX5.out _, ((four_db HB5.out HG.out _ _ _ _).keep ((Below.refl _ _).alloc (Nat.le_refl _) _)).more' (by omega), (four_only (HO2.out.trans hx5) HG2.out _ _ _ _).alloc _, goal_node HXx.out HS.out l9 hdp _ _ _ _ _⟩
    case rest =>
      obtain ⟨op, nm, n, A, l, c, hkf, hbf, hof, hxf⟩ := hcut
      have HXf := Lib.hid hxf
      have HBf := Lib.hid hbf
      have HOf := Lib.hid hof
      have cf : ∀ j, wc.cell? ⟨g2, j, none⟩ = #[Value.string op, .int .i64 n, .string nm, .slice A l c][j]? := fun j => by simp [World.cell?, hkf]
      clear hbf hof hkf hxf
      go_wp2_with fail
      refine bodyPost_ret (v := .agg #[.string op, .int .i64 n, .string nm, .slice A l c]) (by simp [results, Tryz.results39, go_sem, cf]) rfl ⟨op, nm, n, A, l, c, rfl, HBf.out, HOf.out, fun q hq _ => XG.less HXf.out (by have := HG2.out; omega)⟩


end Go.Proofs.YtiigclkebnmopaaGreatDoor
