/- TopJoined: a line is added to a join. (Printed by tools/gtjadd.py.) -/
import Derived.Test.YtppnhdcnjbjibaaGreatDoorTjOth
import Derived.Test.YtppnhdcnjbjibaaGreatDoorTjGrp
import Derived.Deep.DeepCutAuto
namespace Go.Proofs.YtppnhdcnjbjibaaGreatDoor
open Go.RowKit

theorem wp_app_one {o : Oper} {a : Act} {K : Act → World → Prop} {Q : Exit → Act → World → Prop} {w : World} (s x : Operand)
    (ho : o.op = .call { callee := .builtin .append, args := #[s, x], argTypes := #[26, 26] })
    (base : Nat) (v : Value) (L : List ByteArray) (hown : OwnL base v L w) (hs : a.eval s = v) (y : ByteArray) (hx : a.eval x = .slice (some ⟨w.heap.size, 0, none⟩) 1 1)
    (hL : L.length ≤ 20000) (hbase : base ≤ w.heap.size)
    (h : ∀ A c w', OwnL base (.slice A (L.length + 1) c) (L ++ [y]) w' → Below base w w' → Others w w' → K (a.put o.dst (.slice A (L.length + 1) c)) w') : o.wp Tryz.prog a (w.alloc (.cells #[.string y] 9)) K Q := by
  obtain ⟨i0, hi, hz0, hz1, hz2⟩ := info_parts strInfo
  have hO : (w.alloc (.cells #[.string y] 9)).ownsRow base 9 1 v L.length (strV L) := World.ownsRow.alloc hown _
  refine wp_append_own _ s x 26 ho base 9 i0 (.string ByteArray.empty) 1 16 Tryz.underlying26 hi hz0 hz1 hz2 rfl (by decide) v L.length (strV L) hs hO ⟨w.heap.size, 0, none⟩ 1 1 [.string y] hx rfl (new_row w [.string y] 9) (fun u hu => by simp at hu; subst hu; rfl) (by unfold maxLen; omega) (by omega) (by simp; omega) ?_
  intro v' w' h1 h2 _
  have h3 : OwnL base v' (L ++ [y]) w' := by
    unfold OwnL
    rw [List.length_append, strV, List.map_append]
    exact h1
  obtain ⟨A, c, rfl⟩ := h3.form
  have hl : (L ++ [y]).length = L.length + 1 := by simp
  rw [hl] at h3 ⊢
  refine h A c w' h3 (((Below.refl base w).alloc hbase _).grown h2 (by simp; omega) (fun g hg => (World.ownsRow.lt hO g hg).1)) (fun b cs T fr hT hb => ?_)
  have hlt : b < w.heap.size := (Array.getElem?_eq_some_iff.1 hb).1
  have hb2 : (w.alloc (.cells #[.string y] 9)).heap[b]? = some (.cells cs T fr) := (Below.heap_alloc _ _ _ hlt).trans hb
  exact (h2.block b (by simp; omega) (fun e => Lib.ownBlock_ne hO hb2 (fun e => hT e) e.symm)).trans hb2

/-- the joiner's cells -/
def jC (vl : Value) : Array Value := #[.int .i64 1, .int .i64 1, .string ⟨#[44]⟩, .bool false, .bool false, .bool false, .string ⟨#[]⟩, .slice none 0 0, vl]
/-- the joiner, and the lines that it has -/
def JI (x : Nat) (L : List ByteArray) (w : World) : Prop := ∃ vl, w.heap[x]? = some (.cells (jC vl) 72 (0, 0)) ∧ OwnL x vl L w
theorem JI.keep {x : Nat} {L : List ByteArray} {w w' : World} (h : JI x L w) (hb : Below w.heap.size w w') : JI x L w' := by
  obtain ⟨vl, h1, h2⟩ := h
  exact ⟨vl, (hb.block x (Array.getElem?_eq_some_iff.1 h1).1).trans h1, h2.keep hb⟩
theorem JI.lt {x : Nat} {L : List ByteArray} {w : World} (h : JI x L w) : x < w.heap.size := by
  obtain ⟨vl, h1, h2⟩ := h
  exact (Array.getElem?_eq_some_iff.1 h1).1
/-- a record where a pointer points -/
structure RecAt (w : World) (b off : Nat) (p : RP) : Prop where
  c0 : w.cell? ⟨b, off, none⟩ = some (fldV p.2)
  c1 : w.cell? ⟨b, off + 1, none⟩ = some (.string p.1.1)
  f : FieldsAt w p
theorem RecAt.keep {w w' : World} {b off : Nat} {p : RP} (h : RecAt w b off p) (hb : Below w.heap.size w w') : RecAt w' b off p :=
  ⟨(hb.cell (p := ⟨b, off, none⟩) (World.block_lt_of_cell? w _ h.c0)).trans h.c0, (hb.cell (p := ⟨b, off + 1, none⟩) (World.block_lt_of_cell? w _ h.c1)).trans h.c1, h.f.keep hb⟩
/-- a line of a join -/
def lnJ (p q : R3) : ByteArray := toB (Lib.join [bl p.1, bl p.2.1, bl p.2.2, bl q.2.1, bl q.2.2] [44])
theorem grown_set (w : World) (b i : Nat) (u : Value) : w.grownBy (w.setCell ⟨b, i, none⟩ u) (some b) :=
  ⟨rfl, rfl, rfl, by simp [World.setCell], fun k _ hne => heap_setCell_other w ⟨b, i, none⟩ k u (fun e => hne (by rw [e]))⟩
theorem cat3 (W : World) (k a b : PV) (hk : k.ok W) (ha : a.ok W) (hb : b.ok W) (hs : k.l.length + a.l.length + b.l.length ≤ 1000) :
    Calls Tryz.prog 62 #[.slice (some ⟨W.heap.size, 0, none⟩) 3 3] (W.alloc (.cells #[k.val, a.val, b.val] 26)) fun e w' => ∃ v, e = .returned v ∧ OwnL W.heap.size v (k.l ++ (a.l ++ b.l)) w' ∧ Below W.heap.size W w' := by
  have hb1 : Below W.heap.size W (W.alloc (.cells #[k.val, a.val, b.val] 26)) := (Below.refl _ W).alloc (Nat.le_refl _) _
  obtain ⟨q0, q1, q2⟩ := three_cells W k.val a.val b.val 26
  have hall : PV.all [k, a, b] = k.l ++ (a.l ++ b.l) := by simp [PV.all]
  refine (concat_any [k, a, b] W.heap.size _ (by simp) (fun j hj => ?_) (fun q hq => ?_) (by simp) (by rw [hall]; simp; omega)).mono ?_
  · simp only [List.length_cons, List.length_nil] at hj
    match j, hj with
    | 0, _ => exact q0
    | 1, _ => exact q1
    | 2, _ => exact q2
  · simp only [List.mem_cons, List.not_mem_nil, or_false] at hq
    rcases hq with rfl | rfl | rfl
    · exact hk.keep hb1
    · exact ha.keep hb1
    · exact hb.keep hb1
  · rintro e w' ⟨v, rfl, ho, hb2⟩
    rw [hall] at ho
    exact ⟨v, rfl, own_low ho hb1.size, hb1.trans (hb2.mono hb1.size)⟩
theorem key_pv (W : World) (s : ByteArray) : (PV.mk W.heap.size 0 1 [s]).ok (W.alloc (.cells #[.string s] 9)) := by
  have h := heap_alloc_new W (.cells #[.string s] 9)
  refine ⟨by simp, by simp, fun j hj => ?_⟩
  simp only [List.length_cons, List.length_nil] at hj
  obtain rfl : j = 0 := by omega
  simp only [World.cell?, h]
  rfl
theorem oth_pv (p : RP) (b off : Nat) (w : World) (h : RecAt w b off p) :
    Calls Tryz.prog 63 #[.pointer (some ⟨b, off, none⟩), .int .i64 1] w fun e w' => ∃ ab ao ac, e = .returned (.slice (some ⟨ab, ao, none⟩) 2 ac) ∧ (PV.mk ab ao ac [p.1.2.1, p.1.2.2]).ok w' ∧ Below w.heap.size w w' := by
  refine (others_any p b off w h.c0 h.f).mono ?_
  rintro e w' ⟨v, rfl, ho, hb⟩
  obtain ⟨⟨ab, ao, ac, al⟩, rfl, hl, hok⟩ := ho.pv (by simp)
  dsimp only at hl
  subst hl
  exact ⟨ab, ao, ac, rfl, hok, hb⟩

set_option maxRecDepth 100000 in
set_option maxHeartbeats 6400000 in
theorem add_any (x : Nat) (L : List ByteArray) (p q : RP) (ba oa bb ob : Nat) (w : World) (hj : JI x L w) (hp : RecAt w ba oa p) (hq : RecAt w bb ob q) (hL : L.length ≤ 10000) (hps : okR p.1) (hqs : okR q.1) :
    Calls Tryz.prog 30 #[.pointer (some ⟨x, 0, none⟩), .pointer (some ⟨ba, oa, none⟩), .pointer (some ⟨bb, ob, none⟩)] w fun e w' => e = .returned (.tuple #[]) ∧ JI x (L ++ [lnJ p.1 q.1]) w' ∧ Below x w w' := by
  have HJ := Lib.hid hj
  have HP := Lib.hid hp
  have HQ := Lib.hid hq
  have hxl := hj.lt
  have hjlen : (Lib.join [bl p.1.1, bl p.1.2.1, bl p.1.2.2, bl q.1.2.1, bl q.1.2.2] [44]).length ≤ 1000 := by
    have h1 := hps.1.1
    have h2 := hps.2.1.1
    have h3 := hps.2.2.1
    have h4 := hqs.2.1.1
    have h5 := hqs.2.2.1
    simp only [join_two, Lib.join_one, List.length_append, List.length_cons, bl_size]
    omega
  have HJN := Lib.hid (fun v W (h : SL W v [p.1.1, p.1.2.1, p.1.2.2, q.1.2.1, q.1.2.2]) => join_any [p.1.1, p.1.2.1, p.1.2.2, q.1.2.1, q.1.2.2] ⟨#[44]⟩ v W h (by simp) (Nat.le_trans hjlen (by decide)))
  have HY : Hid (lnJ p.1 q.1 = toB (Lib.join ([p.1.1, p.1.2.1, p.1.2.2, q.1.2.1, q.1.2.2].map bl) (bl ⟨#[44]⟩))) := Lib.hid rfl
  rw [← HY.out] at HJN
  obtain ⟨y, hy⟩ : ∃ y, y = lnJ p.1 q.1 := ⟨_, rfl⟩
  rw [← hy] at HJN ⊢
  clear hy HY hjlen hps hqs
  obtain ⟨vl, hxb, hol⟩ := hj
  have hcx : ∀ j, w.cell? ⟨x, j, none⟩ = (jC vl)[j]? := fun j => by simp [World.cell?, hxb]
  have x0 : w.cell? ⟨x, 0, none⟩ = some (.int .i64 1) := hcx 0
  have x1 : w.cell? ⟨x, 1, none⟩ = some (.int .i64 1) := hcx 1
  have x2 : w.cell? ⟨x, 2, none⟩ = some (.string ⟨#[44]⟩) := hcx 2
  have kx : w.cell? ⟨ba, oa + 1, none⟩ = some (.string p.1.1) := hp.c1
  have HOA := Lib.hid (fun W (h : Below w.heap.size w W) => oth_pv p ba oa W (HP.out.keep h))
  have HOB := Lib.hid (fun W (h : Below w.heap.size w W) => oth_pv q bb ob W (HQ.out.keep h))
  obtain ⟨key, hkey⟩ : ∃ key, key = p.1.1 := ⟨_, rfl⟩
  rw [← hkey] at kx
  have HKEY := Lib.hid hkey
  have HSS : Hid (∀ W, Below w.heap.size w W → W.cell? ⟨ba, oa + 1, none⟩ = some (.string key) ∧ W.cell? ⟨x, 0, none⟩ = some (.int .i64 1) ∧ W.cell? ⟨x, 1, none⟩ = some (.int .i64 1)) := Lib.hid (fun W h => ⟨(h.cell (p := ⟨ba, oa + 1, none⟩) (World.block_lt_of_cell? w _ kx)).trans kx, (h.cell (p := ⟨x, 0, none⟩) hxl).trans x0, (h.cell (p := ⟨x, 1, none⟩) hxl).trans x1⟩)
  clear hkey hcx hxb hol hp hq
  go_enter Tryz.func30, Tryz.ntmps30
  go_upto_region 6 with fail
  go_cut [8] from 24 to 44 (fun s8 wx => Hid (OwnL w.heap.size s8 [p.1.1, p.1.2.1, p.1.2.2, q.1.2.1, q.1.2.2] wx) ∧ Hid (Below w.heap.size w wx))
  case first =>
    clear HJ HJN
    refine wp_region_tail 19 (fun W => W.cell? ⟨ba, oa + 1, none⟩ = some (.string key) ∧ W.cell? ⟨x, 0, none⟩ = some (.int .i64 1) ∧ W.cell? ⟨x, 1, none⟩ = some (.int .i64 1)) (by kernel_rfl) (by decide) ?_
    have hS : w.drew.cell? ⟨ba, oa + 1, none⟩ = some (.string key) ∧ w.drew.cell? ⟨x, 0, none⟩ = some (.int .i64 1) ∧ w.drew.cell? ⟨x, 1, none⟩ = some (.int .i64 1) := ⟨kx, x0, x1⟩
    refine wpAnyT_take 99 0 (v := ?_) (by kernel_rfl) rfl (by kernel_rfl) (fun _ _ _ h => h) (Or.inl ⟨by rfl, fun W hW => ?_⟩) (by with_reducible assumption) ?_
    rotate_left
    focus ((try dsimp only at hW); go_simp; try with_reducible rfl)
    refine wpAnyT_take 99 1 (v := ?_) (by kernel_rfl) rfl (by kernel_rfl) (fun _ _ _ h => h) (Or.inl ⟨by rfl, fun W hW => ?_⟩) (by with_reducible assumption) ?_
    rotate_left
    focus ((try dsimp only at hW); go_simp; try with_reducible rfl)
    refine wpAnyT_take 99 2 (v := ?_) (by kernel_rfl) rfl (by kernel_rfl) (fun _ _ _ h => h) (Or.inl ⟨by rfl, fun W hW => ?_⟩) (by with_reducible assumption) ?_
    rotate_left
    focus ((try dsimp only at hW); go_simp; try with_reducible rfl)
    refine wpAnyT_take 99 3 (v := ?_) (by kernel_rfl) rfl (by kernel_rfl) (fun _ _ _ h => h) (Or.inl ⟨by rfl, fun W hW => ?_⟩) (by with_reducible assumption) ?_
    rotate_left
    focus ((try dsimp only at hW); go_simp; try with_reducible rfl)
    refine wpAnyT_take 99 5 (v := ?_) (by kernel_rfl) rfl (by kernel_rfl) (fun _ _ _ h => h) (Or.inl ⟨by rfl, fun W hW => ?_⟩) (by with_reducible assumption) ?_
    rotate_left
    focus ((try dsimp only at hW); go_simp; try with_reducible rfl)
    refine wpAnyT_take 99 6 (v := ?_) (by kernel_rfl) rfl (by kernel_rfl) (fun _ _ _ h => h) (Or.inl ⟨by rfl, fun W hW => ?_⟩) (by with_reducible assumption) ?_
    rotate_left
    focus ((try dsimp only at hW); go_simp; try with_reducible rfl)
    refine wpAnyT_take 99 7 (v := ?_) (by kernel_rfl) rfl (by kernel_rfl) (fun _ _ _ h => h) (Or.inl ⟨by rfl, fun W hW => ?_⟩) (by with_reducible assumption) ?_
    rotate_left
    focus ((try dsimp only at hW); go_simp; try with_reducible rfl)
    refine wpAnyT_take 99 8 (v := ?_) (by kernel_rfl) rfl (by kernel_rfl) (fun _ _ _ h => h) (Or.inl ⟨by rfl, fun W hW => ?_⟩) (by with_reducible assumption) ?_
    rotate_left
    focus ((try dsimp only at hW); go_simp; try with_reducible rfl)
    refine wpAnyT_take 99 9 (v := ?_) (by kernel_rfl) rfl (by kernel_rfl) (fun _ _ _ h => h) (Or.inl ⟨by rfl, fun W hW => ?_⟩) (by with_reducible assumption) ?_
    rotate_left
    focus ((try dsimp only at hW); go_simp; try with_reducible rfl)
    refine wpAnyT_take 99 10 (v := ?_) (by kernel_rfl) rfl (by kernel_rfl) (fun _ _ _ h => h) (Or.inl ⟨by rfl, fun W hW => ?_⟩) (by with_reducible assumption) ?_
    rotate_left
    focus ((try dsimp only at hW); go_simp; try with_reducible rfl)
    refine wpAnyT_take 99 12 (v := ?_) (by kernel_rfl) rfl (by kernel_rfl) (fun _ _ _ h => h) (Or.inl ⟨by rfl, fun W hW => ?_⟩) (by with_reducible assumption) ?_
    rotate_left
    focus ((try dsimp only at hW); go_simp; try with_reducible rfl)
    refine wpAnyT_take 99 13 (v := ?_) (by kernel_rfl) rfl (by kernel_rfl) (fun _ _ _ h => h) (Or.inl ⟨by rfl, fun W hW => ?_⟩) (by with_reducible assumption) ?_
    rotate_left
    focus ((try dsimp only at hW); go_simp; try with_reducible rfl)
    refine wpAnyT_take 99 14 (v := ?_) (by kernel_rfl) rfl (by kernel_rfl) (fun _ _ _ h => h) (Or.inl ⟨by rfl, fun W hW => ?_⟩) (by with_reducible assumption) ?_
    rotate_left
    focus ((try dsimp only at hW); go_simp; try with_reducible rfl)
    refine wpAnyT_take 99 15 (v := ?_) (by kernel_rfl) rfl (by kernel_rfl) (fun _ _ _ h => h) (Or.inl ⟨by rfl, fun W hW => ?_⟩) (by with_reducible assumption) ?_
    rotate_left
    focus ((try dsimp only at hW); go_simp; try with_reducible rfl)
    refine wpAnyT_take 99 16 (v := ?_) (by kernel_rfl) rfl (by kernel_rfl) (fun _ _ _ h => h) (Or.inl ⟨by rfl, fun W hW => ?_⟩) (by with_reducible assumption) ?_
    rotate_left
    focus ((try dsimp only at hW); go_simp; try with_reducible rfl)
    refine wpAnyT_take 99 17 (v := ?_) (by kernel_rfl) rfl (by kernel_rfl) (fun _ _ _ h => h) (Or.inl ⟨by rfl, fun W hW => ?_⟩) (by with_reducible assumption) ?_
    rotate_left
    focus ((try dsimp only at hW); go_simp; try with_reducible rfl)
    clear x0 x1 x2 kx
    simp only [Act.put, List.getElem_toArray, List.getElem_cons_zero, List.getElem_cons_succ, List.setIfInBounds_toArray, List.set_cons_zero, List.set_cons_succ]
    have HD : Hid (Below w.heap.size w w.drew) := Lib.hid (Below.refl _ w).drew
    refine wpAnyT_two 4 11 (by kernel_rfl) (by decide) (by decide) ?_ ?_
    · refine wpOp_at rfl rfl (fun K hK => ?_)
      go_simp
      obtain ⟨kb, hkb⟩ : ∃ kb, kb = w.heap.size := ⟨_, rfl⟩
      obtain ⟨v1, hwk⟩ : ∃ z, z = (w.alloc (.cells #[.string key] 9)).drew := ⟨_, rfl⟩
      have HKk : Hid ((PV.mk kb 0 1 [key]).ok v1) := Lib.hid (by rw [hwk, hkb]; exact (key_pv w key).keep (Below.refl _ _).drew)
      have HBk : Hid (Below w.heap.size w v1) := Lib.hid (by rw [hwk]; exact ((Below.refl _ w).alloc (Nat.le_refl _) _).drew)
      rw [← hkb, ← hwk]
      clear hkb hwk
      refine hK.out _ _ ⟨HSS.out _ HBk.out, ?_⟩
      clear hK K
      try simp only [Act.put, List.getElem_toArray, List.getElem_cons_zero, List.getElem_cons_succ, List.setIfInBounds_toArray, List.set_cons_zero, List.set_cons_succ]
      refine wpAnyT_one 11 (by kernel_rfl) (by decide) ?_
      refine wpOp_at rfl rfl (fun K hK => ?_)
      go_simp
      refine (HOA.out v1 HBk.out).mono ?_
      rintro e v2 ⟨ab, ao, ac, rfl, hok, hbb⟩
      have HKa := Lib.hid hok
      have HSa := Lib.hid hbb
      clear hok hbb
      have HBa : Hid (Below w.heap.size w v2) := Lib.hid (HBk.out.trans (HSa.out.mono HBk.out.size))
      refine hK.out _ _ ⟨HSS.out _ HBa.out, ?_⟩
      clear hK K
      try simp only [Act.put, List.getElem_toArray, List.getElem_cons_zero, List.getElem_cons_succ, List.setIfInBounds_toArray, List.set_cons_zero, List.set_cons_succ]
      refine wpAnyT_one 18 (by kernel_rfl) (by decide) ?_
      refine wpOp_at rfl rfl (fun K hK => ?_)
      go_simp
      refine (HOB.out v2 HBa.out).mono ?_
      rintro e v3 ⟨bb_, bo, bc, rfl, hok, hbb⟩
      have HKb := Lib.hid hok
      have HSb := Lib.hid hbb
      clear hok hbb
      have HBb : Hid (Below w.heap.size w v3) := Lib.hid (HBa.out.trans (HSb.out.mono HBa.out.size))
      refine hK.out _ _ ⟨HSS.out _ HBb.out, ?_⟩
      clear hK K
      try simp only [Act.put, List.getElem_toArray, List.getElem_cons_zero, List.getElem_cons_succ, List.setIfInBounds_toArray, List.set_cons_zero, List.set_cons_succ]
      refine ⟨by kernel_rfl, ?_⟩
      simp only [List.drop_succ_cons, List.drop_zero]
      have HCC := Lib.hid (cat3 v3 (PV.mk kb 0 1 [key]) (PV.mk ab ao ac [p.1.2.1, p.1.2.2]) (PV.mk bb_ bo bc [q.1.2.1, q.1.2.2]) (((HKk.out).keep HSa.out).keep HSb.out) ((HKa.out).keep HSb.out) (HKb.out) (by simp))
      unfold PV.val at HCC
      go_wp2_with fail
      refine HCC.out.mono ?_
      rintro e v4 ⟨v, rfl, ho, hb4⟩
      have HO4 := Lib.hid (own_low ho HBb.out.size)
      have HB4 := Lib.hid (HBb.out.trans (hb4.mono HBb.out.size))
      obtain ⟨A4, c4, rfl⟩ := ho.form
      clear ho hb4
      go_wp2_with fail
      go_meet
      exact ⟨by rw [← HKEY.out]; exact HO4, HB4⟩
    · refine wpOp_at rfl rfl (fun K hK => ?_)
      go_simp
      refine (HOA.out w.drew HD.out).mono ?_
      rintro e v1 ⟨ab, ao, ac, rfl, hok, hbb⟩
      have HKa := Lib.hid hok
      have HSa := Lib.hid hbb
      clear hok hbb
      have HBa : Hid (Below w.heap.size w v1) := Lib.hid (HD.out.trans (HSa.out.mono HD.out.size))
      refine hK.out _ _ ⟨HSS.out _ HBa.out, ?_⟩
      clear hK K
      try simp only [Act.put, List.getElem_toArray, List.getElem_cons_zero, List.getElem_cons_succ, List.setIfInBounds_toArray, List.set_cons_zero, List.set_cons_succ]
      refine wpAnyT_two 4 18 (by kernel_rfl) (by decide) (by decide) ?_ ?_
      · refine wpOp_at rfl rfl (fun K hK => ?_)
        go_simp
        obtain ⟨kb, hkb⟩ : ∃ kb, kb = v1.heap.size := ⟨_, rfl⟩
        obtain ⟨v2, hwk⟩ : ∃ z, z = v1.alloc (.cells #[.string key] 9) := ⟨_, rfl⟩
        have HKk : Hid ((PV.mk kb 0 1 [key]).ok v2) := Lib.hid (by rw [hwk, hkb]; exact key_pv v1 key)
        have HSk : Hid (Below v1.heap.size v1 v2) := Lib.hid (by rw [hwk]; exact (Below.refl _ _).alloc (Nat.le_refl _) _)
        rw [← hkb, ← hwk]
        clear hkb hwk
        have HBk : Hid (Below w.heap.size w v2) := Lib.hid (HBa.out.trans (HSk.out.mono HBa.out.size))
        refine hK.out _ _ ⟨HSS.out _ HBk.out, ?_⟩
        clear hK K
        try simp only [Act.put, List.getElem_toArray, List.getElem_cons_zero, List.getElem_cons_succ, List.setIfInBounds_toArray, List.set_cons_zero, List.set_cons_succ]
        refine wpAnyT_one 18 (by kernel_rfl) (by decide) ?_
        refine wpOp_at rfl rfl (fun K hK => ?_)
        go_simp
        refine (HOB.out v2 HBk.out).mono ?_
        rintro e v3 ⟨bb_, bo, bc, rfl, hok, hbb⟩
        have HKb := Lib.hid hok
        have HSb := Lib.hid hbb
        clear hok hbb
        have HBb : Hid (Below w.heap.size w v3) := Lib.hid (HBk.out.trans (HSb.out.mono HBk.out.size))
        refine hK.out _ _ ⟨HSS.out _ HBb.out, ?_⟩
        clear hK K
        try simp only [Act.put, List.getElem_toArray, List.getElem_cons_zero, List.getElem_cons_succ, List.setIfInBounds_toArray, List.set_cons_zero, List.set_cons_succ]
        refine ⟨by kernel_rfl, ?_⟩
        simp only [List.drop_succ_cons, List.drop_zero]
        have HCC := Lib.hid (cat3 v3 (PV.mk kb 0 1 [key]) (PV.mk ab ao ac [p.1.2.1, p.1.2.2]) (PV.mk bb_ bo bc [q.1.2.1, q.1.2.2]) ((HKk.out).keep HSb.out) (((HKa.out).keep HSk.out).keep HSb.out) (HKb.out) (by simp))
        unfold PV.val at HCC
        go_wp2_with fail
        refine HCC.out.mono ?_
        rintro e v4 ⟨v, rfl, ho, hb4⟩
        have HO4 := Lib.hid (own_low ho HBb.out.size)
        have HB4 := Lib.hid (HBb.out.trans (hb4.mono HBb.out.size))
        obtain ⟨A4, c4, rfl⟩ := ho.form
        clear ho hb4
        go_wp2_with fail
        go_meet
        exact ⟨by rw [← HKEY.out]; exact HO4, HB4⟩
      · refine wpOp_at rfl rfl (fun K hK => ?_)
        go_simp
        refine (HOB.out v1 HBa.out).mono ?_
        rintro e v2 ⟨bb_, bo, bc, rfl, hok, hbb⟩
        have HKb := Lib.hid hok
        have HSb := Lib.hid hbb
        clear hok hbb
        have HBb : Hid (Below w.heap.size w v2) := Lib.hid (HBa.out.trans (HSb.out.mono HBa.out.size))
        refine hK.out _ _ ⟨HSS.out _ HBb.out, ?_⟩
        clear hK K
        try simp only [Act.put, List.getElem_toArray, List.getElem_cons_zero, List.getElem_cons_succ, List.setIfInBounds_toArray, List.set_cons_zero, List.set_cons_succ]
        refine wpAnyT_one 4 (by kernel_rfl) (by decide) ?_
        refine wpOp_at rfl rfl (fun K hK => ?_)
        go_simp
        obtain ⟨kb, hkb⟩ : ∃ kb, kb = v2.heap.size := ⟨_, rfl⟩
        obtain ⟨v3, hwk⟩ : ∃ z, z = v2.alloc (.cells #[.string key] 9) := ⟨_, rfl⟩
        have HKk : Hid ((PV.mk kb 0 1 [key]).ok v3) := Lib.hid (by rw [hwk, hkb]; exact key_pv v2 key)
        have HSk : Hid (Below v2.heap.size v2 v3) := Lib.hid (by rw [hwk]; exact (Below.refl _ _).alloc (Nat.le_refl _) _)
        rw [← hkb, ← hwk]
        clear hkb hwk
        have HBk : Hid (Below w.heap.size w v3) := Lib.hid (HBb.out.trans (HSk.out.mono HBb.out.size))
        refine hK.out _ _ ⟨HSS.out _ HBk.out, ?_⟩
        clear hK K
        try simp only [Act.put, List.getElem_toArray, List.getElem_cons_zero, List.getElem_cons_succ, List.setIfInBounds_toArray, List.set_cons_zero, List.set_cons_succ]
        refine ⟨by kernel_rfl, ?_⟩
        simp only [List.drop_succ_cons, List.drop_zero]
        have HCC := Lib.hid (cat3 v3 (PV.mk kb 0 1 [key]) (PV.mk ab ao ac [p.1.2.1, p.1.2.2]) (PV.mk bb_ bo bc [q.1.2.1, q.1.2.2]) (HKk.out) (((HKa.out).keep HSb.out).keep HSk.out) ((HKb.out).keep HSk.out) (by simp))
        unfold PV.val at HCC
        go_wp2_with fail
        refine HCC.out.mono ?_
        rintro e v4 ⟨v, rfl, ho, hb4⟩
        have HO4 := Lib.hid (own_low ho HBk.out.size)
        have HB4 := Lib.hid (HBk.out.trans (hb4.mono HBk.out.size))
        obtain ⟨A4, c4, rfl⟩ := ho.form
        clear ho hb4
        go_wp2_with fail
        go_meet
        exact ⟨by rw [← HKEY.out]; exact HO4, HB4⟩
  case rest =>
    obtain ⟨HW, HBC⟩ := hcut
    clear x0 x1 x2 kx HSS HOA HOB
    have HJC := HJ.out.keep HBC.out
    obtain ⟨vl2, hxb, hol⟩ := HJC
    have hcx : ∀ j, wc.cell? ⟨x, j, none⟩ = (jC vl2)[j]? := fun j => by simp [World.cell?, hxb]
    have HXB := Lib.hid hxb
    have HOL := Lib.hid hol
    obtain ⟨AL, cL, rfl⟩ := hol.form
    have x7 : wc.cell? ⟨x, 7, none⟩ = some (.slice none 0 0) := hcx 7
    have x8 : wc.cell? ⟨x, 8, none⟩ = some (.slice AL L.length cL) := hcx 8
    obtain ⟨AW, cW, hcw⟩ := HW.out.form
    have hcw5 : u8 = .slice AW 5 cW := hcw
    subst hcw5
    have HWS : Hid (SL wc (.slice AW 5 cW) [p.1.1, p.1.2.1, p.1.2.2, q.1.2.1, q.1.2.2]) := Lib.hid HW.out.sl
    clear hxb hol hcx hcw HW
    go_wp2_with fail
    go_loopw [8, 58] (fun s8 s58 wr => s8 = .slice AW 5 cW ∧ s58 = .int .i64 0 ∧ wr = wc) (fun _ _ _ => 0)
    case atStart => exact ⟨rfl, rfl, rfl⟩
    case round =>
      obtain ⟨rfl, rfl, hwr⟩ := hrel
      subst hwr
      go_upto_region 20 with fail
      refine wp_region_tail 10 (fun W => W.cell? ⟨x, 8, none⟩ = some (.slice AL L.length cL)) (by kernel_rfl) (by decide) ?_
      have hS : wr.drew.cell? ⟨x, 8, none⟩ = some (.slice AL L.length cL) := x8
      refine wpAnyT_take 99 0 (v := ?_) (by kernel_rfl) rfl (by kernel_rfl) (fun _ _ _ h => h) (Or.inl ⟨by rfl, fun W hW => ?_⟩) (by with_reducible assumption) ?_
      rotate_left
      focus ((try dsimp only at hW); go_simp; try with_reducible rfl)
      refine wpAnyT_take 99 1 (v := ?_) (by kernel_rfl) rfl (by kernel_rfl) (fun _ _ _ h => h) (Or.inl ⟨by rfl, fun W hW => ?_⟩) (by with_reducible assumption) ?_
      rotate_left
      focus ((try dsimp only at hW); go_simp; try with_reducible rfl)
      refine wpAnyT_take 99 2 (v := ?_) (by kernel_rfl) rfl (by kernel_rfl) (fun _ _ _ h => h) (Or.inl ⟨by rfl, fun W hW => ?_⟩) (by with_reducible assumption) ?_
      rotate_left
      focus ((try dsimp only at hW); go_simp; try with_reducible rfl)
      refine wpAnyT_take 99 3 (v := ?_) (by kernel_rfl) rfl (by kernel_rfl) (fun _ _ _ h => h) (Or.inl ⟨by rfl, fun W hW => ?_⟩) (by with_reducible assumption) ?_
      rotate_left
      focus ((try dsimp only at hW); go_simp; try with_reducible rfl)
      refine wpAnyT_take 99 4 (v := ?_) (by kernel_rfl) rfl (by kernel_rfl) (fun _ _ _ h => h) (Or.inl ⟨by rfl, fun W hW => ?_⟩) (by with_reducible assumption) ?_
      rotate_left
      focus ((try dsimp only at hW); go_simp; try with_reducible rfl)
      refine wpAnyT_take 99 5 (v := ?_) (by kernel_rfl) rfl (by kernel_rfl) (fun _ _ _ h => h) (Or.inl ⟨by rfl, fun W hW => ?_⟩) (by with_reducible assumption) ?_
      rotate_left
      focus ((try dsimp only at hW); go_simp; try with_reducible rfl)
      refine wpAnyT_take 99 6 (v := ?_) (by kernel_rfl) rfl (by kernel_rfl) (fun _ _ _ h => h) (Or.inl ⟨by rfl, fun W hW => ?_⟩) (by with_reducible assumption) ?_
      rotate_left
      focus ((try dsimp only at hW); go_simp; try with_reducible rfl)
      simp only [Act.put, List.getElem_toArray, List.getElem_cons_zero, List.getElem_cons_succ, List.setIfInBounds_toArray, List.set_cons_zero, List.set_cons_succ]
      have HXD : Hid (Below wr.heap.size wr wr.drew) := Lib.hid (Below.refl _ wr).drew
      refine wpAnyT_one 7 (by kernel_rfl) (by decide) ?_
      refine wpOp_at rfl rfl (fun K hK => ?_)
      go_simp
      refine (HJN.out _ wr.drew (HWS.out.keep HXD.out)).mono ?_
      rintro e w1 ⟨rfl, hb1⟩
      have HB1 : Hid (Below wr.heap.size wr w1) := Lib.hid (HXD.out.trans (hb1.mono HXD.out.size))
      have hxw : x < wr.heap.size := (Array.getElem?_eq_some_iff.1 HXB.out).1
      have hS1 : w1.cell? ⟨x, 8, none⟩ = some (.slice AL L.length cL) := (HB1.out.cell (p := ⟨x, 8, none⟩) hxw).trans x8
      refine hK.out _ _ ⟨hS1, ?_⟩
      clear hK K hb1
      try simp only [Act.put, List.getElem_toArray, List.getElem_cons_zero, List.getElem_cons_succ, List.setIfInBounds_toArray, List.set_cons_zero, List.set_cons_succ]
      refine wpAnyT_one 8 (by kernel_rfl) (by decide) ?_
      refine wpOp_at rfl rfl (fun K hK => ?_)
      go_simp
      have hS2 : (w1.alloc (.cells #[.string y] 9)).cell? ⟨x, 8, none⟩ = some (.slice AL L.length cL) := by
        rw [World.cell?_alloc_old _ _ _ (by have := HB1.out.size; show x ≠ _; omega)]
        exact hS1
      refine hK.out _ _ ⟨hS2, ?_⟩
      clear hK K
      try simp only [Act.put, List.getElem_toArray, List.getElem_cons_zero, List.getElem_cons_succ, List.setIfInBounds_toArray, List.set_cons_zero, List.set_cons_succ]
      refine wpAnyT_one 9 (by kernel_rfl) (by decide) ?_
      refine wpOp_at rfl rfl (fun K hK => ?_)
      refine wp_app_one _ _ (by rfl) x (.slice AL L.length cL) L (HOL.out.keep HB1.out) (by rfl) y (by rfl) (by omega) (by have := HB1.out.size; omega) ?_
      intro A4 c4 w4 ho4 hb4 hot
      have hx4 : w4.heap[x]? = some (.cells (jC (.slice AL L.length cL)) 72 (0, 0)) := hot x _ _ _ (by decide) ((HB1.out.block x hxw).trans HXB.out)
      have y8 : w4.cell? ⟨x, 8, none⟩ = some (.slice AL L.length cL) := by simp [World.cell?, hx4, jC]
      have z8 : w4.frozen? ⟨x, 8, none⟩ = false := by simp [World.frozen?, hx4]
      have HX4 := Lib.hid hx4
      have HO4 := Lib.hid ho4
      have HB4 : Hid (Below x w w4) := Lib.hid ((HBC.out.mono (by omega)).trans ((HB1.out.mono (by omega)).trans hb4))
      clear hx4 ho4 hb4 hot hS1 hS2
      refine hK.out _ _ ⟨y8, ?_⟩
      clear hK K
      try simp only [Act.put, List.getElem_toArray, List.getElem_cons_zero, List.getElem_cons_succ, List.setIfInBounds_toArray, List.set_cons_zero, List.set_cons_succ]
      refine ⟨by kernel_rfl, ?_⟩
      simp only [List.drop_succ_cons, List.drop_zero]
      go_wp2_with fail
      go_end0
      have h1 := heap_setCell_same w4 x 8 _ _ (.slice A4 (L.length + 1) c4) HX4.out
      refine ⟨rfl, ⟨.slice A4 (L.length + 1) c4, h1, ?_⟩, HB4.out.setCell (Nat.le_refl _) _⟩
      exact World.ownsRow.kept (row := some x) HO4.out (grown_set w4 x 8 _) (.inr (Lib.ownBlock_ne HO4.out HX4.out (by decide)))
end Go.Proofs.YtppnhdcnjbjibaaGreatDoor
