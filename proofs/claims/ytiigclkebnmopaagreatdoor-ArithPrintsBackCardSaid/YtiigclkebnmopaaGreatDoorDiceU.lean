/- The law's dice: one step of the generator of expressions, with the tree that is built; all steps. -/
import Derived.Test.YtiigclkebnmopaaGreatDoorDiceT
namespace Go.Proofs.YtiigclkebnmopaaGreatDoor
open Go.RowKit Go.Shelf

/-- what holds while an expression is built -/
structure IS (b B k gd gp g2 : Nat) (deep : Int) (ks : List (Value × Ex)) (a w : World) : Prop where
  base : b < B ∧ B ≤ a.heap.size ∧ a.heap.size ≤ gd ∧ a.heap.size ≤ gp ∧ a.heap.size ≤ g2 ∧ gd ≠ g2 ∧ gp ≠ g2
  db : DB w b B k
  only : Only b a w
  eb : EB w g2
  cd : w.cell? ⟨gd, 0, none⟩ = some (.pointer (some ⟨b, 0, none⟩))
  cp : w.cell? ⟨gp, 0, none⟩ = some (.int .i64 deep)
  kids : Kids g2 w ks
theorem lt_of_cell {w : World} {p : Addr} {v : Value} (h : w.cell? p = some v) : p.block < w.heap.size := by
  unfold World.cell? at h
  cases hh : w.heap[p.block]? with
  | none => rw [hh] at h; cases h
  | some x => exact (Array.getElem?_eq_some_iff.1 hh).1
theorem IS.step {b B k k' gd gp g2 : Nat} {deep : Int} {ks : List (Value × Ex)} {a w w' : World} (h : IS b B k gd gp g2 deep ks a w) (hd : DB w' b B k') (ho : Only b w w') : IS b B k' gd gp g2 deep ks a w' := by
  have hb := h.base
  have h1 : gd < w.heap.size := lt_of_cell h.cd
  have h2 : gp < w.heap.size := lt_of_cell h.cp
  exact ⟨hb, hd, h.only.trans ho, h.eb.only ho (by omega), (ho.cell h1 (by omega)).trans h.cd, (ho.cell h2 (by omega)).trans h.cp, h.kids.only ho (by omega)⟩
theorem IS.more {b B k k' gd gp g2 : Nat} {deep : Int} {ks : List (Value × Ex)} {a w : World} (h : IS b B k gd gp g2 deep ks a w) (hk : k ≤ k') : IS b B k' gd gp g2 deep ks a w := ⟨h.base, h.db.more' hk, h.only, h.eb, h.cd, h.cp, h.kids⟩
theorem IS.alloc {b B k gd gp g2 : Nat} {deep : Int} {ks : List (Value × Ex)} {a w : World} (h : IS b B k gd gp g2 deep ks a w) (o : Obj) : IS b B k gd gp g2 deep ks a (w.alloc o) :=
  h.step (h.db.keep ((Below.refl _ w).alloc (Nat.le_refl _) o)) ((Only.refl b w).alloc o)
theorem IS.drew {b B k gd gp g2 : Nat} {deep : Int} {ks : List (Value × Ex)} {a w : World} (h : IS b B k gd gp g2 deep ks a w) : IS b B k gd gp g2 deep ks a w.drew :=
  h.step (h.db.keep (Below.refl _ w).drew) (Only.refl b w).drew
theorem IS.two {b B k gd gp g2 : Nat} {deep : Int} {ks : List (Value × Ex)} {a w : World} (h : IS b B k gd gp g2 deep ks a w) : w.cell? ⟨gd, 0, none⟩ = some (.pointer (some ⟨b, 0, none⟩)) ∧ w.cell? ⟨gp, 0, none⟩ = some (.int .i64 deep) := ⟨h.cd, h.cp⟩
theorem IS.two4 {b B k gd gp g2 : Nat} {deep : Int} {ks : List (Value × Ex)} {a w : World} (h : IS b B k gd gp g2 deep ks a w) (v0 v1 v2 v3 : Value) : (fourE w g2 v0 v1 v2 v3).cell? ⟨gd, 0, none⟩ = some (.pointer (some ⟨b, 0, none⟩)) ∧ (fourE w g2 v0 v1 v2 v3).cell? ⟨gp, 0, none⟩ = some (.int .i64 deep) :=
  two_four h.two ⟨h.base.2.2.2.2.2.1, h.base.2.2.2.2.2.2⟩ v0 v1 v2 v3
/-- the expression is stored -/
theorem IS.fin {b B k gd gp g2 : Nat} {deep : Int} {ks : List (Value × Ex)} {a w : World} (h : IS b B k gd gp g2 deep ks a w) (v0 v1 v2 v3 : Value) : DB (fourE w g2 v0 v1 v2 v3) b B k ∧ Only b a (fourE w g2 v0 v1 v2 v3) ∧ (fourE w g2 v0 v1 v2 v3).heap[g2]? = some (.cells #[v0, v1, v2, v3] 25 (0, 0)) := by
  have hb := h.base
  exact ⟨four_db h.db (by omega) _ _ _ _, four_only h.only (by omega) _ _ _ _, four_heap h.eb _ _ _ _⟩
theorem IS.finA {b B k gd gp g2 : Nat} {deep : Int} {ks : List (Value × Ex)} {a w : World} (h : IS b B k gd gp g2 deep ks a w) (v0 v1 v2 v3 : Value) (o : Obj) : DB ((fourE w g2 v0 v1 v2 v3).alloc o) b B k ∧ Only b a ((fourE w g2 v0 v1 v2 v3).alloc o) ∧ ((fourE w g2 v0 v1 v2 v3).alloc o).heap[g2]? = some (.cells #[v0, v1, v2, v3] 25 (0, 0)) := by
  have hf := h.fin v0 v1 v2 v3
  exact ⟨hf.1.keep ((Below.refl _ _).alloc (Nat.le_refl _) o), hf.2.1.alloc o, four_alloc h.eb o⟩
/-- what the walk reads of it -/
theorem IS.look {b B k gd gp g2 : Nat} {deep : Int} {ks : List (Value × Ex)} {a w : World} (h : IS b B k gd gp g2 deep ks a w) : (∀ j, w.cell? ⟨g2, j, none⟩ = zeroE[j]?) ∧ (∀ j, w.frozen? ⟨g2, j, none⟩ = false) ∧ g2 < w.heap.size ∧ gd < w.heap.size ∧ gp < w.heap.size := ⟨h.eb.cells.1, h.eb.cells.2, h.eb.lt, lt_of_cell h.cd, lt_of_cell h.cp⟩

theorem IS.start {b B k : Nat} {w : World} (h : DB w b B k) (deep : Int) (T U : TypeId) : IS b B k w.heap.size (w.heap.size + 1) (w.heap.size + 1 + 1) deep [] w (((w.alloc (.cells #[.pointer (some ⟨b, 0, none⟩)] T)).alloc (.cells #[.int .i64 deep] U)).alloc (.cells zeroE 25)) := by
  have hb := h.base
  have b1 := (((Below.refl w.heap.size w).alloc (Nat.le_refl _) (.cells #[.pointer (some ⟨b, 0, none⟩)] T)).alloc (by simp) (.cells #[.int .i64 deep] U)).alloc (by simp; omega) (.cells zeroE 25)
  refine ⟨⟨hb.1, hb.2, Nat.le_refl _, by omega, by omega, by omega, by omega⟩, h.keep b1, Only.of b1 (Nat.le_refl _), ?_, ?_, ?_, Kids.nil _ _⟩
  · have := heap_alloc_new ((w.alloc (.cells #[.pointer (some ⟨b, 0, none⟩)] T)).alloc (.cells #[.int .i64 deep] U)) (.cells zeroE 25)
    simpa [EB] using this
  · refine some_alloc (some_alloc ?_ _) _
    have := heap_alloc_new w (.cells #[.pointer (some ⟨b, 0, none⟩)] T)
    unfold World.cell?
    dsimp only
    rw [this]
    rfl
  · refine some_alloc ?_ _
    have := heap_alloc_new (w.alloc (.cells #[.pointer (some ⟨b, 0, none⟩)] T)) (.cells #[.int .i64 deep] U)
    unfold World.cell?
    dsimp only
    rw [show w.heap.size + 1 = (w.alloc (.cells #[.pointer (some ⟨b, 0, none⟩)] T)).heap.size by simp, this]
    rfl

abbrev CE (b B C : Nat) (d : Int) : Prop := ∀ W k', DB W b B k' → k' + C ≤ 4611686018427387904 → Calls Tryz.prog 12 #[.pointer (some ⟨b, 0, none⟩), .int .i64 d] W (EP b B (k' + C) d W)

theorem IS.goal {b B k C gd gp g2 : Nat} {deep : Int} {ks : List (Value × Ex)} {a w : World} (h : IS b B k gd gp g2 deep ks a w) (hk : k + C + 3 ≤ 4611686018427387904) (h1 : 0 < deep) (h2 : deep ≤ 100) (hE : CE b B C (deep - 2)) :
    Calls Tryz.prog 39 #[.pointer (some ⟨gd, 0, none⟩), .pointer (some ⟨gp, 0, none⟩)] w (GP b B (k + C + 3) (deep - 1) w) := by
  have hb := h.base
  have l1 : gd < w.heap.size := lt_of_cell h.cd
  have l2 : gp < w.heap.size := lt_of_cell h.cp
  exact goal_any b B k gd gp C deep w h.cd h.cp l1 l2 (by omega) (by omega) h.db hk h1 h2 hE
/-- one of seven numbers -/
theorem seven {b B k gd gp g2 : Nat} {deep : Int} {ks : List (Value × Ex)} {a w w' : World} {q : Int} {x0 x1 x2 x3 x4 x5 x6 : Int} {T : TypeId} (h : IS b B k gd gp g2 deep ks a w) (ho : Only b (w.alloc (.cells #[.int .i64 x0, .int .i64 x1, .int .i64 x2, .int .i64 x3, .int .i64 x4, .int .i64 x5, .int .i64 x6] T)) w') (h1 : 0 ≤ q) (h2 : q < 7) : ∃ x : Int, w'.cell? ⟨w.heap.size, q.toNat, none⟩ = some (.int .i64 x) ∧ x ∈ [x0, x1, x2, x3, x4, x5, x6] := by
  have hl := h.db.lt
  have hh := heap_alloc_new w (.cells #[.int .i64 x0, .int .i64 x1, .int .i64 x2, .int .i64 x3, .int .i64 x4, .int .i64 x5, .int .i64 x6] T)
  have hc : ∀ j, w'.cell? ⟨w.heap.size, j, none⟩ = #[Value.int .i64 x0, .int .i64 x1, .int .i64 x2, .int .i64 x3, .int .i64 x4, .int .i64 x5, .int .i64 x6][j]? := fun j => by
    refine (ho.cell (by simp) (by omega)).trans ?_
    unfold World.cell?
    dsimp only
    rw [hh]
    rfl
  have hq : q = 0 ∨ q = 1 ∨ q = 2 ∨ q = 3 ∨ q = 4 ∨ q = 5 ∨ q = 6 := by omega
  rcases hq with rfl | rfl | rfl | rfl | rfl | rfl | rfl <;> exact ⟨_, hc _, by simp⟩
theorem IS.bg {b B k gd gp g2 : Nat} {deep : Int} {ks : List (Value × Ex)} {a w : World} (h : IS b B k gd gp g2 deep ks a w) : b ≤ g2 := by
  have := h.base
  omega
theorem IS.up {b B k gd gp g2 : Nat} {deep : Int} {ks : List (Value × Ex)} {a w : World} (h : IS b B k gd gp g2 deep ks a w) : a.heap.size ≤ g2 := by
  have := h.base
  omega
theorem IS.g2lt {b B k gd gp g2 : Nat} {deep : Int} {ks : List (Value × Ex)} {a w : World} (h : IS b B k gd gp g2 deep ks a w) : g2 < w.heap.size := h.eb.lt
theorem IS.add {b B k gd gp g2 : Nat} {deep : Int} {ks : List (Value × Ex)} {a w : World} (h : IS b B k gd gp g2 deep ks a w) {v : Value} {x : Ex} (hx : ExV (fun g => g2 < g) w v x) : IS b B k gd gp g2 deep (ks ++ [(v, x)]) a w :=
  ⟨h.base, h.db, h.only, h.eb, h.cd, h.cp, h.kids.add hx⟩
theorem ret_expr {b B k m g2 : Nat} {d : Int} {x : Ex} {a W : World} {act : Act} {op nm : ByteArray} {n : Int} {A : Option Addr} {l c : Nat} (h : DB W b B k ∧ Only b a W ∧ W.heap[g2]? = some (.cells #[.string op, .int .i64 n, .string nm, .slice A l c] 25 (0, 0)))
    (ht : act.tmps[4]? = some (.pointer (some ⟨g2, 0, none⟩)) ∧ act.defers = []) (hm : k ≤ m) (hg : a.heap.size ≤ g2) (hx : ExV (fun g => g2 < g) W (.agg #[.string op, .int .i64 n, .string nm, .slice A l c]) x) (hT : Top g2 W (.agg #[.string op, .int .i64 n, .string nm, .slice A l c]) x) (hd : DOk d x) : bodyPost Tryz.prog Tryz.f12 (EP b B m d a) .ret act W := by
  have cf : ∀ j, W.cell? ⟨g2, j, none⟩ = #[Value.string op, .int .i64 n, .string nm, .slice A l c][j]? := fun j => by simp [World.cell?, h.2.2]
  refine bodyPost_ret (v := .agg #[.string op, .int .i64 n, .string nm, .slice A l c]) ?_ ht.2 ⟨op, nm, n, A, l, c, rfl, h.1.more' hm, h.2.1, fun q hq _ => XD.less ⟨x, hx, hd, hT⟩ (by omega)⟩
  simp [results, Tryz.results12, go_sem, cf, ht.1]
theorem flat_ex {q : Nat} {w : World} (op nm : ByteArray) (n : Int) : ExV (fun g => q < g) w (.agg #[.string op, .int .i64 n, .string nm, .slice none 0 0]) (.mk op.data.toList n nm.data.toList []) := ExV.flat _ _ op.data.toList nm.data.toList n
theorem leafs_a {s : ByteArray} (h : s ∈ ([⟨#[120]⟩, ⟨#[121]⟩, ⟨#[110]⟩, ⟨#[97, 98, 99]⟩] : List ByteArray)) : varOk s.data.toList = true ∧ s.data.toList.length ≤ 16 := by
  have : ∀ l ∈ ([[120], [121], [110], [97, 98, 99]] : List (List UInt8)), varOk l = true ∧ l.length ≤ 16 := by decide
  exact this _ (mem_bytes h)
theorem leafs_b {s : ByteArray} (h : s ∈ ([⟨#[49]⟩, ⟨#[35]⟩, ⟨#[63]⟩, ⟨#[49, 50]⟩, ⟨#[48]⟩] : List ByteArray)) : varOk s.data.toList = true ∧ s.data.toList.length ≤ 16 := by
  have : ∀ l ∈ ([[49], [35], [63], [49, 50], [48]] : List (List UInt8)), varOk l = true ∧ l.length ≤ 16 := by decide
  exact this _ (mem_bytes h)
theorem seven_n {x : Int} (h : x ∈ [(0 : Int), 1, 2, 7, 10, 100, 9223372036854775807]) : 0 ≤ x ∧ x ≤ (maxN : Int) := by
  have : ∀ x ∈ [(0 : Int), 1, 2, 7, 10, 100, 9223372036854775807], 0 ≤ x ∧ x ≤ (maxN : Int) := by decide
  exact this x h
theorem un_mem {s : ByteArray} (h : s ∈ ([⟨#[117, 45]⟩, ⟨#[117, 43]⟩, ⟨#[33]⟩, ⟨#[126]⟩] : List ByteArray)) : s.data.toList ∈ [[117, 45], [117, 43], [33], [126]] := mem_bytes h
theorem set_mem {s : ByteArray} (h : s ∈ ([⟨#[43, 43, 118]⟩, ⟨#[45, 45, 118]⟩, ⟨#[118, 43, 43]⟩, ⟨#[118, 45, 45]⟩] : List ByteArray)) : s.data.toList ∈ setU := mem_bytes h
theorem bin_mem {s : ByteArray} (h : s ∈ ([⟨#[42]⟩, ⟨#[47]⟩, ⟨#[37]⟩, ⟨#[43]⟩, ⟨#[45]⟩, ⟨#[60, 60]⟩, ⟨#[62, 62]⟩, ⟨#[60]⟩, ⟨#[60, 61]⟩, ⟨#[62]⟩, ⟨#[62, 61]⟩, ⟨#[61, 61]⟩, ⟨#[33, 61]⟩, ⟨#[38]⟩, ⟨#[94]⟩, ⟨#[124]⟩, ⟨#[38, 38]⟩, ⟨#[124, 124]⟩, ⟨#[44]⟩] : List ByteArray)) : s.data.toList ∈ binO ++ [[44]] := mem_bytes h
theorem asg_mem {s : ByteArray} (h : s ∈ ([⟨#[61]⟩, ⟨#[42, 61]⟩, ⟨#[47, 61]⟩, ⟨#[37, 61]⟩, ⟨#[43, 61]⟩, ⟨#[45, 61]⟩, ⟨#[60, 60, 61]⟩, ⟨#[62, 62, 61]⟩, ⟨#[38, 61]⟩, ⟨#[94, 61]⟩, ⟨#[124, 61]⟩] : List ByteArray)) : s.data.toList ∈ assigns := by
  have : ∀ l ∈ ([[61], [42, 61], [47, 61], [37, 61], [43, 61], [45, 61], [60, 60, 61], [62, 62, 61], [38, 61], [94, 61], [124, 61]] : List (List UInt8)), l ∈ assigns := by decide
  exact this _ (mem_bytes h)

set_option maxRecDepth 100000 in
set_option maxHeartbeats 1600000 in
theorem expr_step (b B k C : Nat) (deep : Int) (w : World) (h : DB w b B k) (hk : k + 3 * C + 20 ≤ 4611686018427387904) (hdp : -3 ≤ deep) (hdp2 : deep ≤ 100)
    (hE1 : -3 < deep → CE b B C (deep - 1)) (hE2 : 0 < deep → CE b B C (deep - 2)) :
    Calls Tryz.prog 12 #[.pointer (some ⟨b, 0, none⟩), .int .i64 deep] w (EP b B (k + 3 * C + 20) deep w) := by
  have hbase := h.base
  have e1 : IntKind.i64.wrap (deep - 1) = deep - 1 := IntWalk.i64_in _ (by omega)
  have e2 : IntKind.i64.wrap (deep - 2) = deep - 2 := IntWalk.i64_in _ (by omega)
  have HE1 := Lib.hid hE1
  have HE2 := Lib.hid hE2
  have HW := Lib.hid h
  clear h hE1 hE2
  go_enter Tryz.func12, Tryz.ntmps12
  go_upto_region 1 with fail
  have HI := Lib.hid (IS.start HW.out deep 33 3)
  unfold zeroE at HI
  generalize (((w.alloc (.cells #[.pointer (some ⟨b, 0, none⟩)] 33)).alloc (.cells #[.int .i64 deep] 3)).alloc (.cells #[.string ⟨#[]⟩, .int .i64 0, .string ⟨#[]⟩, .slice none 0 0] 25)) = w1 at *
  generalize w.heap.size + 1 + 1 = g2 at *
  generalize w.heap.size + 1 = gp at *
  generalize w.heap.size = gd at *
  have hcd := HI.out.cd
  have hcp := HI.out.cp
  go_cut [17] (fun s17 wx => ∃ q : Bool, s17 = .bool q ∧ (q = false → 0 < deep) ∧ IS b B (k + 2) gd gp g2 deep [] w wx)
  case first =>
    by_cases h0 : deep ≤ 0
    · go_wp2_with fail
      go_meet
      exact ⟨true, rfl, nofun, HI.out.more (by omega)⟩
    · go_wp2_with fail
      refine (more_b b B k _ HI.out.db (by omega)).mono ?_
      rintro e w2 ⟨q, rfl, hd2, ho2⟩
      have HI2 := Lib.hid (HI.out.step hd2 ho2)
      have hcd2 := HI2.out.cd
      clear hcd hcp hd2 ho2
      cases q with
      | false =>
        go_wp2_with fail
        go_meet
        exact ⟨true, rfl, nofun, HI2.out.more (by omega)⟩
      | true =>
        go_wp2_with fail
        refine (roll_b b B (k + 1) 3 _ HI2.out.db (by omega) (by omega) (by omega)).mono ?_
        rintro e w3 ⟨r, rfl, _, _, hd3, ho3⟩
        have HI3 := Lib.hid (HI2.out.step hd3 ho3)
        go_wp2_with fail
        go_meet
        exact ⟨_, rfl, fun _ => by omega, HI3.out⟩
  case rest =>
    obtain ⟨q, rfl, hq, hIS⟩ := hcut
    have HI2 := Lib.hid hIS
    clear hIS hcd hcp HI
    have hcd := HI2.out.cd
    have hcp := HI2.out.cp
    cases q with
    | true =>
      go_wp2_with fail
      refine (roll_b b B (k + 2) 5 _ HI2.out.db (by omega) (by omega) (by omega)).mono ?_
      rintro e w2 ⟨r, rfl, _, _, hd2, ho2⟩
      have HI3 := Lib.hid (HI2.out.step hd2 ho2)
      clear hcd hcp hd2 ho2
      have hcd := HI3.out.cd
      have hcp := HI3.out.cp
      clear HI2
      cases r0 : (r == 0) with
      | true =>
        go_wp2_with fail
        refine (of_b b B (k + 3) [⟨#[120]⟩, ⟨#[121]⟩, ⟨#[110]⟩, ⟨#[97, 98, 99]⟩] _ w2 HI3.out.db (by omega) (by decide) (by decide) rfl).mono ?_
        rintro e y ⟨s, rfl, hs, hd4, ho4⟩
        have HS := Lib.hid hs
        have J := Lib.hid (HI3.out.step hd4 ho4)
        clear hcd hcp hd4 ho4 HI3 hs
        obtain ⟨c3, z3, l3, l3d, l3p⟩ := J.out.look
        unfold zeroE at c3
        go_wp2_with fail
        refine ret_expr (J.out.fin _ _ _ _) ⟨rfl, rfl⟩ (by omega) J.out.up (flat_ex _ _ _) (flat_top _ _ _) ?_
        exact DOk.var hdp (leafs_a HS.out).1 (leafs_a HS.out).2
      | false =>
        cases r1 : (r == 1) with
        | true =>
          go_wp2_with fail
          refine (of_b b B (k + 3) [⟨#[49]⟩, ⟨#[35]⟩, ⟨#[63]⟩, ⟨#[49, 50]⟩, ⟨#[48]⟩] _ w2 HI3.out.db (by omega) (by decide) (by decide) rfl).mono ?_
          rintro e y ⟨s, rfl, hs, hd4, ho4⟩
          have HS := Lib.hid hs
          have J := Lib.hid (HI3.out.step hd4 ho4)
          clear hcd hcp hd4 ho4 HI3 hs
          obtain ⟨c3, z3, l3, l3d, l3p⟩ := J.out.look
          unfold zeroE at c3
          go_wp2_with fail
          refine ret_expr (J.out.fin _ _ _ _) ⟨rfl, rfl⟩ (by omega) J.out.up (flat_ex _ _ _) (flat_top _ _ _) ?_
          exact DOk.var hdp (leafs_b HS.out).1 (leafs_b HS.out).2
        | false =>
          cases r2 : (r == 2) with
          | true =>
            by_cases h3 : -3 < deep
            · have HG1 := Lib.hid (HE1.out h3)
              clear HE1 HE2
              go_upto_region 9 with fail
              go_region_held3 (fun W => W.cell? ⟨gd, 0, none⟩ = some (.pointer (some ⟨b, 0, none⟩)) ∧ W.cell? ⟨gp, 0, none⟩ = some (.int .i64 deep)) (first | (with_reducible exact two_al (IS.two4 J1.out _ _ _ _) _) | (with_reducible exact J1.out.two) | (with_reducible exact J1.out.drew.two) | (with_reducible exact (J1.out.alloc _).two) | (with_reducible exact (J1.out.drew.alloc _).two) | (with_reducible exact (J1.out.alloc _).drew.two) | (with_reducible exact J0.out.two) | (with_reducible exact J0.out.drew.two) | (with_reducible exact (J0.out.alloc _).two) | (with_reducible exact (J0.out.drew.alloc _).two) | (with_reducible exact (J0.out.alloc _).drew.two) | (with_reducible exact HI3.out.two) | (with_reducible exact HI3.out.drew.two) | (with_reducible exact (HI3.out.alloc _).two) | (with_reducible exact (HI3.out.drew.alloc _).two) | (with_reducible exact (HI3.out.alloc _).drew.two))
                (first
                  | (go_at_call 12; refine ((HG1).out _ (k + 3 + 1) ?db (by omega)).mono ?_; (case db => with_reducible exact J0.out.db); rintro e y1 ⟨op1, nm1, n1, A1, l1, c1, rfl, hb1, ho1, hx1⟩; obtain ⟨x1, hx1, hd1, _⟩ := hx1 _ (IS.g2lt J0.out) (IS.bg J0.out); have HD1 := Lib.hid hd1; have J1 := Lib.hid (IS.add (IS.step J0.out hb1 ho1) hx1); have L1 := IS.look (Hid.out J1); unfold zeroE at L1; obtain ⟨c9, z9, l9, _, _⟩ := L1; clear hb1 ho1 hx1 hd1)
                  | (go_at_call 38; refine (of_d b B (k + 3) [⟨#[108]⟩, ⟨#[120]⟩] _ w2 ?db (by omega) (by decide) (by decide) rfl).mono ?_; (case db => with_reducible exact HI3.out.db); rintro e y0 ⟨s, rfl, hs, hb0, ho0⟩; have HS := Lib.hid hs; have J0 := Lib.hid (IS.step HI3.out hb0 ho0); have L0 := IS.look (Hid.out J0); unfold zeroE at L0; obtain ⟨c9, z9, l9, _, _⟩ := L0; clear hs hb0 ho0))
              all_goals go_wp2_with fail
              refine ret_expr (J1.out.finA _ _ _ _ _) ⟨rfl, rfl⟩ (by omega) J1.out.up (node_ex J1.out.kids (Nat.le_refl _) J1.out.g2lt _ _ _ _ _ _ _ _ rfl _ _ rfl) (node_top J1.out.kids (Nat.le_refl _) J1.out.g2lt _ _ _ _ _ _ _ _ rfl _ _ rfl) ?_
              exact DOk.elem h3 (lx_nm HS.out).1 (lx_nm HS.out).2 HD1.out
            · clear HE1 HE2
              obtain ⟨_, _, _, l4d, l4p⟩ := HI3.out.look
              go_wp2_with fail
              refine (roll_b b B (k + 3) 7 _ (HI3.out.alloc _).db (by omega) (by omega) (by omega)).mono ?_
              rintro e y ⟨q, rfl, hq1, hq2, hd4, ho4⟩
              have J := Lib.hid ((HI3.out.alloc _).step hd4 ho4)
              obtain ⟨x, hx, hm⟩ := seven HI3.out ho4 hq1 hq2
              have HN := Lib.hid (seven_n hm)
              clear hcd hcp hd4 ho4 HI3 hm
              obtain ⟨c3, z3, l3, l3d, l3p⟩ := J.out.look
              unfold zeroE at c3
              go_wp2_with fail
              refine ret_expr (J.out.fin _ _ _ _) ⟨rfl, rfl⟩ (by omega) J.out.up (flat_ex _ _ _) (flat_top _ _ _) ?_
              exact DOk.num hdp HN.out.1 HN.out.2
          | false =>
            clear HE1 HE2
            obtain ⟨_, _, _, l4d, l4p⟩ := HI3.out.look
            go_wp2_with fail
            refine (roll_b b B (k + 3) 7 _ (HI3.out.alloc _).db (by omega) (by omega) (by omega)).mono ?_
            rintro e y ⟨q, rfl, hq1, hq2, hd4, ho4⟩
            have J := Lib.hid ((HI3.out.alloc _).step hd4 ho4)
            obtain ⟨x, hx, hm⟩ := seven HI3.out ho4 hq1 hq2
            have HN := Lib.hid (seven_n hm)
            clear hcd hcp hd4 ho4 HI3 hm
            obtain ⟨c3, z3, l3, l3d, l3p⟩ := J.out.look
            unfold zeroE at c3
            go_wp2_with fail
            refine ret_expr (J.out.fin _ _ _ _) ⟨rfl, rfl⟩ (by omega) J.out.up (flat_ex _ _ _) (flat_top _ _ _) ?_
            exact DOk.num hdp HN.out.1 HN.out.2
    | false =>
      have h0 := hq rfl
      have HG1 := Lib.hid (HE1.out (by omega))
      have HG2 := Lib.hid (HE2.out h0)
      clear HE1 HE2 hq
      go_wp2_with fail
      refine (roll_b b B (k + 2) 6 _ HI2.out.db (by omega) (by omega) (by omega)).mono ?_
      rintro e w2 ⟨r, rfl, _, _, hd2, ho2⟩
      have HI3 := Lib.hid (HI2.out.step hd2 ho2)
      clear hcd hcp hd2 ho2
      have hcd := HI3.out.cd
      have hcp := HI3.out.cp
      clear HI2
      cases r0 : (r == 0) with
      | true =>
        go_upto_region 14 with fail
        go_region_held3 (fun W => W.cell? ⟨gd, 0, none⟩ = some (.pointer (some ⟨b, 0, none⟩)) ∧ W.cell? ⟨gp, 0, none⟩ = some (.int .i64 deep)) (first | (with_reducible exact two_al (IS.two4 J1.out _ _ _ _) _) | (with_reducible exact J1.out.two) | (with_reducible exact J1.out.drew.two) | (with_reducible exact (J1.out.alloc _).two) | (with_reducible exact (J1.out.drew.alloc _).two) | (with_reducible exact (J1.out.alloc _).drew.two) | (with_reducible exact J0.out.two) | (with_reducible exact J0.out.drew.two) | (with_reducible exact (J0.out.alloc _).two) | (with_reducible exact (J0.out.drew.alloc _).two) | (with_reducible exact (J0.out.alloc _).drew.two) | (with_reducible exact HI3.out.two) | (with_reducible exact HI3.out.drew.two) | (with_reducible exact (HI3.out.alloc _).two) | (with_reducible exact (HI3.out.drew.alloc _).two) | (with_reducible exact (HI3.out.alloc _).drew.two))
          (first
            | (go_at_call 12; refine ((HG1).out _ (k + 3 + 1) ?db (by omega)).mono ?_; (case db => with_reducible exact J0.out.db); rintro e y1 ⟨op1, nm1, n1, A1, l1, c1, rfl, hb1, ho1, hx1⟩; obtain ⟨x1, hx1, hd1, _⟩ := hx1 _ (IS.g2lt J0.out) (IS.bg J0.out); have HD1 := Lib.hid hd1; have J1 := Lib.hid (IS.add (IS.step J0.out hb1 ho1) hx1); have L1 := IS.look (Hid.out J1); unfold zeroE at L1; obtain ⟨c9, z9, l9, _, _⟩ := L1; clear hb1 ho1 hx1 hd1)
            | (go_at_call 38; refine (of_d b B (k + 3) [⟨#[117, 45]⟩, ⟨#[117, 43]⟩, ⟨#[33]⟩, ⟨#[126]⟩] _ w2 ?db (by omega) (by decide) (by decide) rfl).mono ?_; (case db => with_reducible exact HI3.out.db); rintro e y0 ⟨s, rfl, hs, hb0, ho0⟩; have HS := Lib.hid hs; have J0 := Lib.hid (IS.step HI3.out hb0 ho0); have L0 := IS.look (Hid.out J0); unfold zeroE at L0; obtain ⟨c9, z9, l9, _, _⟩ := L0; clear hs hb0 ho0))
        all_goals go_wp2_with fail
        refine ret_expr (J1.out.finA _ _ _ _ _) ⟨rfl, rfl⟩ (by omega) J1.out.up (node_ex J1.out.kids (Nat.le_refl _) J1.out.g2lt _ _ _ _ _ _ _ _ rfl _ _ rfl) (node_top J1.out.kids (Nat.le_refl _) J1.out.g2lt _ _ _ _ _ _ _ _ rfl _ _ rfl) ?_
        exact DOk.un h0 (un_mem HS.out) HD1.out
      | false =>
        cases r1 : (r == 1) with
        | true =>
          go_upto_region 16 with fail
          go_region_held3 (fun W => W.cell? ⟨gd, 0, none⟩ = some (.pointer (some ⟨b, 0, none⟩)) ∧ W.cell? ⟨gp, 0, none⟩ = some (.int .i64 deep)) (first | (with_reducible exact two_al (IS.two4 J2.out _ _ _ _) _) | (with_reducible exact J2.out.two) | (with_reducible exact J2.out.drew.two) | (with_reducible exact (J2.out.alloc _).two) | (with_reducible exact (J2.out.drew.alloc _).two) | (with_reducible exact (J2.out.alloc _).drew.two) | (with_reducible exact J1.out.two) | (with_reducible exact J1.out.drew.two) | (with_reducible exact (J1.out.alloc _).two) | (with_reducible exact (J1.out.drew.alloc _).two) | (with_reducible exact (J1.out.alloc _).drew.two) | (with_reducible exact J0.out.two) | (with_reducible exact J0.out.drew.two) | (with_reducible exact (J0.out.alloc _).two) | (with_reducible exact (J0.out.drew.alloc _).two) | (with_reducible exact (J0.out.alloc _).drew.two) | (with_reducible exact HI3.out.two) | (with_reducible exact HI3.out.drew.two) | (with_reducible exact (HI3.out.alloc _).two) | (with_reducible exact (HI3.out.drew.alloc _).two) | (with_reducible exact (HI3.out.alloc _).drew.two))
            (first
              | (go_at_call 12; refine ((HG1).out _ (k + 3 + C + C) ?db (by omega)).mono ?_; (case db => with_reducible exact J1.out.db); rintro e y2 ⟨op2, nm2, n2, A2, l2, c2, rfl, hb2, ho2, hx2⟩; obtain ⟨x2, hx2, hd2, _⟩ := hx2 _ (IS.g2lt J1.out) (IS.bg J1.out); have HD2 := Lib.hid hd2; have J2 := Lib.hid (IS.add (IS.step J1.out hb2 ho2) hx2); have L2 := IS.look (Hid.out J2); unfold zeroE at L2; obtain ⟨c9, z9, l9, _, _⟩ := L2; clear hb2 ho2 hx2 hd2)
              | (go_at_call 12; refine ((HG1).out _ (k + 3 + C) ?db (by omega)).mono ?_; (case db => with_reducible exact J0.out.db); rintro e y1 ⟨op1, nm1, n1, A1, l1, c1, rfl, hb1, ho1, hx1⟩; obtain ⟨x1, hx1, hd1, _⟩ := hx1 _ (IS.g2lt J0.out) (IS.bg J0.out); have HD1 := Lib.hid hd1; have J1 := Lib.hid (IS.add (IS.step J0.out hb1 ho1) hx1); have L1 := IS.look (Hid.out J1); unfold zeroE at L1; obtain ⟨c9, z9, l9, _, _⟩ := L1; clear hb1 ho1 hx1 hd1)
              | (go_at_call 12; refine ((HG1).out _ (k + 3) ?db (by omega)).mono ?_; (case db => first | (with_reducible exact HI3.out.db) | (with_reducible exact HI3.out.drew.db)); rintro e y0 ⟨op0, nm0, n0, A0, l0, c0, rfl, hb0, ho0, hx0⟩; obtain ⟨x0, hx0, hd0, _⟩ := hx0 _ (by first | (exact IS.g2lt HI3.out) | (exact IS.g2lt HI3.out.drew)) (IS.bg HI3.out); have HD0 := Lib.hid hd0; have J0 := Lib.hid (IS.add (IS.step HI3.out hb0 (only_drew ho0)) hx0); have L0 := IS.look (Hid.out J0); unfold zeroE at L0; obtain ⟨c9, z9, l9, _, _⟩ := L0; clear hb0 ho0 hx0 hd0))
          all_goals go_wp2_with fail
          refine ret_expr (J2.out.finA _ _ _ _ _) ⟨rfl, rfl⟩ (by omega) J2.out.up (node_ex J2.out.kids (Nat.le_refl _) J2.out.g2lt _ _ _ _ _ _ _ _ rfl _ _ rfl) (node_top J2.out.kids (Nat.le_refl _) J2.out.g2lt _ _ _ _ _ _ _ _ rfl _ _ rfl) ?_
          exact DOk.three h0 HD0.out HD1.out HD2.out
        | false =>
          cases r2 : (r == 2) with
          | true =>
            go_upto_region 18 with fail
            go_region_held3 (fun W => W.cell? ⟨gd, 0, none⟩ = some (.pointer (some ⟨b, 0, none⟩)) ∧ W.cell? ⟨gp, 0, none⟩ = some (.int .i64 deep)) (first | (with_reducible exact two_al (IS.two4 J2.out _ _ _ _) _) | (with_reducible exact J2.out.two) | (with_reducible exact J2.out.drew.two) | (with_reducible exact (J2.out.alloc _).two) | (with_reducible exact (J2.out.drew.alloc _).two) | (with_reducible exact (J2.out.alloc _).drew.two) | (with_reducible exact J1.out.two) | (with_reducible exact J1.out.drew.two) | (with_reducible exact (J1.out.alloc _).two) | (with_reducible exact (J1.out.drew.alloc _).two) | (with_reducible exact (J1.out.alloc _).drew.two) | (with_reducible exact J0.out.two) | (with_reducible exact J0.out.drew.two) | (with_reducible exact (J0.out.alloc _).two) | (with_reducible exact (J0.out.drew.alloc _).two) | (with_reducible exact (J0.out.alloc _).drew.two) | (with_reducible exact HI3.out.two) | (with_reducible exact HI3.out.drew.two) | (with_reducible exact (HI3.out.alloc _).two) | (with_reducible exact (HI3.out.drew.alloc _).two) | (with_reducible exact (HI3.out.alloc _).drew.two))
              (first
                | (go_at_call 12; refine ((HG1).out _ (k + 3 + 1 + C + 3) ?db (by omega)).mono ?_; (case db => with_reducible exact J1.out.db); rintro e y2 ⟨op2, nm2, n2, A2, l2, c2, rfl, hb2, ho2, hx2⟩; obtain ⟨x2, hx2, hd2, _⟩ := hx2 _ (IS.g2lt J1.out) (IS.bg J1.out); have HD2 := Lib.hid hd2; have J2 := Lib.hid (IS.add (IS.step J1.out hb2 ho2) hx2); have L2 := IS.look (Hid.out J2); unfold zeroE at L2; obtain ⟨c9, z9, l9, _, _⟩ := L2; clear hb2 ho2 hx2 hd2)
                | (go_at_call 39; refine (IS.goal J0.out (by omega) h0 hdp2 HG2.out).mono ?_; rintro e y1 ⟨op1, nm1, n1, A1, l1, c1, rfl, hb1, ho1, hx1⟩; obtain ⟨x1, hx1, hd1, ht1⟩ := hx1 _ (IS.g2lt J0.out) (IS.bg J0.out); have HD1 := Lib.hid hd1; have HT1 := Lib.hid ht1; clear ht1; have J1 := Lib.hid (IS.add (IS.step J0.out hb1 ho1) hx1); have L1 := IS.look (Hid.out J1); unfold zeroE at L1; obtain ⟨c9, z9, l9, _, _⟩ := L1; clear hb1 ho1 hx1 hd1)
                | (go_at_call 38; refine (of_d b B (k + 3) [⟨#[61]⟩, ⟨#[42, 61]⟩, ⟨#[47, 61]⟩, ⟨#[37, 61]⟩, ⟨#[43, 61]⟩, ⟨#[45, 61]⟩, ⟨#[60, 60, 61]⟩, ⟨#[62, 62, 61]⟩, ⟨#[38, 61]⟩, ⟨#[94, 61]⟩, ⟨#[124, 61]⟩] _ w2 ?db (by omega) (by decide) (by decide) rfl).mono ?_; (case db => with_reducible exact HI3.out.db); rintro e y0 ⟨s, rfl, hs, hb0, ho0⟩; have HS := Lib.hid hs; have J0 := Lib.hid (IS.step HI3.out hb0 ho0); have L0 := IS.look (Hid.out J0); unfold zeroE at L0; obtain ⟨c9, z9, l9, _, _⟩ := L0; clear hs hb0 ho0))
            all_goals go_wp2_with fail
            refine ret_expr (J2.out.finA _ _ _ _ _) ⟨rfl, rfl⟩ (by omega) J2.out.up (node_ex J2.out.kids (Nat.le_refl _) J2.out.g2lt _ _ _ _ _ _ _ _ rfl _ _ rfl) (node_top J2.out.kids (Nat.le_refl _) J2.out.g2lt _ _ _ _ _ _ _ _ rfl _ _ rfl) ?_
            exact DOk.assign h0 (asg_mem HS.out) HD1.out HT1.out HD2.out
          | false =>
            cases r3 : (r == 3) with
            | true =>
              clear HG1
              go_wp2_with fail
              refine (of_b b B (k + 3) [⟨#[43, 43, 118]⟩, ⟨#[45, 45, 118]⟩, ⟨#[118, 43, 43]⟩, ⟨#[118, 45, 45]⟩] _ w2 HI3.out.db (by omega) (by decide) (by decide) rfl).mono ?_
              rintro e w3 ⟨s, rfl, hs, hd4, ho4⟩
              have HS := Lib.hid hs
              have J := Lib.hid (HI3.out.step hd4 ho4)
              clear hcd hcp hd4 ho4 HI3 hs
              go_wp2_with fail
              refine (IS.goal J.out (by omega) h0 hdp2 HG2.out).mono ?_
              rintro e w4 ⟨op1, nm1, n1, A1, l1, c1, rfl, hb1, ho1, hx1⟩
              obtain ⟨x1, hx1, hd1, ht1⟩ := hx1 _ (IS.g2lt J.out) (IS.bg J.out)
              have HD1 := Lib.hid hd1
              have HT1 := Lib.hid ht1
              have J2 := Lib.hid (IS.add (IS.step J.out hb1 ho1) hx1)
              obtain ⟨c3, z3, l3, l3d, l3p⟩ := J2.out.look
              unfold zeroE at c3
              clear hb1 ho1 hx1 hd1 ht1
              go_wp2_with fail
              refine ret_expr (J2.out.finA _ _ _ _ _) ⟨rfl, rfl⟩ (by omega) J2.out.up (node_ex J2.out.kids (Nat.le_refl _) J2.out.g2lt _ _ _ _ _ _ _ _ rfl _ _ rfl) (node_top J2.out.kids (Nat.le_refl _) J2.out.g2lt _ _ _ _ _ _ _ _ rfl _ _ rfl) ?_
              exact DOk.twice h0 (set_mem HS.out) HD1.out HT1.out
            | false =>
              go_upto_region 21 with fail
              go_region_held3 (fun W => W.cell? ⟨gd, 0, none⟩ = some (.pointer (some ⟨b, 0, none⟩)) ∧ W.cell? ⟨gp, 0, none⟩ = some (.int .i64 deep)) (first | (with_reducible exact two_al (IS.two4 J2.out _ _ _ _) _) | (with_reducible exact J2.out.two) | (with_reducible exact J2.out.drew.two) | (with_reducible exact (J2.out.alloc _).two) | (with_reducible exact (J2.out.drew.alloc _).two) | (with_reducible exact (J2.out.alloc _).drew.two) | (with_reducible exact J1.out.two) | (with_reducible exact J1.out.drew.two) | (with_reducible exact (J1.out.alloc _).two) | (with_reducible exact (J1.out.drew.alloc _).two) | (with_reducible exact (J1.out.alloc _).drew.two) | (with_reducible exact J0.out.two) | (with_reducible exact J0.out.drew.two) | (with_reducible exact (J0.out.alloc _).two) | (with_reducible exact (J0.out.drew.alloc _).two) | (with_reducible exact (J0.out.alloc _).drew.two) | (with_reducible exact HI3.out.two) | (with_reducible exact HI3.out.drew.two) | (with_reducible exact (HI3.out.alloc _).two) | (with_reducible exact (HI3.out.drew.alloc _).two) | (with_reducible exact (HI3.out.alloc _).drew.two))
                (first
                  | (go_at_call 12; refine ((HG1).out _ (k + 3 + 1 + C) ?db (by omega)).mono ?_; (case db => with_reducible exact J1.out.db); rintro e y2 ⟨op2, nm2, n2, A2, l2, c2, rfl, hb2, ho2, hx2⟩; obtain ⟨x2, hx2, hd2, _⟩ := hx2 _ (IS.g2lt J1.out) (IS.bg J1.out); have HD2 := Lib.hid hd2; have J2 := Lib.hid (IS.add (IS.step J1.out hb2 ho2) hx2); have L2 := IS.look (Hid.out J2); unfold zeroE at L2; obtain ⟨c9, z9, l9, _, _⟩ := L2; clear hb2 ho2 hx2 hd2)
                  | (go_at_call 12; refine ((HG1).out _ (k + 3 + 1) ?db (by omega)).mono ?_; (case db => with_reducible exact J0.out.db); rintro e y1 ⟨op1, nm1, n1, A1, l1, c1, rfl, hb1, ho1, hx1⟩; obtain ⟨x1, hx1, hd1, _⟩ := hx1 _ (IS.g2lt J0.out) (IS.bg J0.out); have HD1 := Lib.hid hd1; have J1 := Lib.hid (IS.add (IS.step J0.out hb1 ho1) hx1); have L1 := IS.look (Hid.out J1); unfold zeroE at L1; obtain ⟨c9, z9, l9, _, _⟩ := L1; clear hb1 ho1 hx1 hd1)
                  | (go_at_call 38; refine (of_d b B (k + 3) [⟨#[42]⟩, ⟨#[47]⟩, ⟨#[37]⟩, ⟨#[43]⟩, ⟨#[45]⟩, ⟨#[60, 60]⟩, ⟨#[62, 62]⟩, ⟨#[60]⟩, ⟨#[60, 61]⟩, ⟨#[62]⟩, ⟨#[62, 61]⟩, ⟨#[61, 61]⟩, ⟨#[33, 61]⟩, ⟨#[38]⟩, ⟨#[94]⟩, ⟨#[124]⟩, ⟨#[38, 38]⟩, ⟨#[124, 124]⟩, ⟨#[44]⟩] _ w2 ?db (by omega) (by decide) (by decide) rfl).mono ?_; (case db => with_reducible exact HI3.out.db); rintro e y0 ⟨s, rfl, hs, hb0, ho0⟩; have HS := Lib.hid hs; have J0 := Lib.hid (IS.step HI3.out hb0 ho0); have L0 := IS.look (Hid.out J0); unfold zeroE at L0; obtain ⟨c9, z9, l9, _, _⟩ := L0; clear hs hb0 ho0))
              all_goals go_wp2_with fail
              refine ret_expr (J2.out.finA _ _ _ _ _) ⟨rfl, rfl⟩ (by omega) J2.out.up (node_ex J2.out.kids (Nat.le_refl _) J2.out.g2lt _ _ _ _ _ _ _ _ rfl _ _ rfl) (node_top J2.out.kids (Nat.le_refl _) J2.out.g2lt _ _ _ _ _ _ _ _ rfl _ _ rfl) ?_
              exact DOk.bin h0 (bin_mem HS.out) HD1.out HD2.out

def ecost : Nat → Nat
  | 0 => 20
  | n + 1 => 3 * ecost n + 20
theorem expr_any (b B n : Nat) : ∀ deep : Int, -3 ≤ deep → deep ≤ 100 → deep + 3 ≤ n → CE b B (ecost n) deep := by
  induction n with
  | zero =>
    intro deep h1 h2 h3 W k h hk
    refine (expr_step b B k 0 deep W h (by simpa [ecost] using hk) h1 h2 (fun h => by omega) (fun h => by omega)).mono ?_
    rintro e w' ⟨op, nm, m, A, l, c, he, hd, ho, hx⟩
    exact ⟨op, nm, m, A, l, c, he, hd.more' (by simp [ecost]), ho, hx⟩
  | succ n ih =>
    intro deep h1 h2 h3 W k h hk
    by_cases h0 : -3 < deep
    · refine (expr_step b B k (ecost n) deep W h (by simp only [ecost] at hk; omega) h1 h2 (fun _ => ih _ (by omega) (by omega) (by omega)) (fun _ => ih _ (by omega) (by omega) (by omega))).mono ?_
      rintro e w' ⟨op, nm, m, A, l, c, he, hd, ho, hx⟩
      exact ⟨op, nm, m, A, l, c, he, hd.more' (by simp only [ecost]; omega), ho, hx⟩
    · refine (expr_step b B k 0 deep W h (by simp only [ecost] at hk; omega) h1 h2 (fun h => by omega) (fun h => by omega)).mono ?_
      rintro e w' ⟨op, nm, m, A, l, c, he, hd, ho, hx⟩
      exact ⟨op, nm, m, A, l, c, he, hd.more' (by simp only [ecost]; omega), ho, hx⟩

end Go.Proofs.YtiigclkebnmopaaGreatDoor
