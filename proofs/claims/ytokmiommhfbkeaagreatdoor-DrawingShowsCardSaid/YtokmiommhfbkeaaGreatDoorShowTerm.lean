/- DrawingShows: the law's terminal understands what Feeds tells, and makes of it what Feeds tells. -/
import Derived.Test.YtokmiommhfbkeaaGreatDoorShowLaw
import Derived.Lib.IndexLaws
import Derived.Test.YtokmiommhfbkeaaGreatDoorRower
import Derived.Laws.OwnMore
import Derived.Lib.AtoiErrMem
import Derived.Deep.QuietTactic
import Derived.StillTailTactics
namespace Go.Proofs.YtokmiommhfbkeaaGreatDoor
open Go.RowKit

def numOk (k : Nat) : Bool :=
  decide (1 ≤ (Lib.itoa ((k : Int) + 1)).length) && decide ((Lib.itoa ((k : Int) + 1)).length ≤ 4) && (Lib.itoa ((k : Int) + 1)).all (fun c => c != 67 && c != 75) && decide (Lib.atoi (Lib.itoa ((k : Int) + 1)) = some ((k : Int) + 1))
theorem num_all : (List.range 1000).all numOk = true := by decide +kernel
theorem num_ok {n : Int} (h1 : 1 ≤ n) (h2 : n ≤ 1000) : 1 ≤ (Lib.itoa n).length ∧ (Lib.itoa n).length ≤ 4 ∧ (∀ c ∈ Lib.itoa n, c ≠ 67 ∧ c ≠ 75) ∧ Lib.atoi (Lib.itoa n) = some n := by
  have h := List.all_eq_true.1 num_all (n - 1).toNat (List.mem_range.2 (by omega))
  unfold numOk at h
  rw [show (((n - 1).toNat : Nat) : Int) + 1 = n by omega] at h
  simp only [Bool.and_eq_true, decide_eq_true_eq, List.all_eq_true, bne_iff_ne] at h
  exact ⟨h.1.1.1, h.1.1.2, h.1.2, h.2⟩

/-- where the letter C stands in what moves the cursor to the right -/
theorem index_C {ds r : List UInt8} (h : ∀ c ∈ ds, c ≠ 67 ∧ c ≠ 75) : Lib.indexByte (27 :: 91 :: (ds ++ 67 :: r)) 67 = ((ds.length + 2 : Nat) : Int) := by
  have hat : (27 :: 91 :: (ds ++ 67 :: r) : List UInt8)[ds.length + 2]? = some 67 := by
    rw [List.getElem?_cons_succ, List.getElem?_cons_succ, List.getElem?_append_right (Nat.le_refl _), Nat.sub_self]; rfl
  have hbefore : ∀ k, k < ds.length + 2 → (27 :: 91 :: (ds ++ 67 :: r) : List UInt8)[k]? ≠ some 67 := fun k hk => by
    match k with
    | 0 => simp
    | 1 => simp
    | k + 2 =>
      rw [List.getElem?_cons_succ, List.getElem?_cons_succ, List.getElem?_append_left (by omega), List.getElem?_eq_getElem (by omega)]
      intro e
      exact (h _ (List.getElem_mem _)).1 (Option.some.inj e)
  have hge := Lib.indexByte_ge (27 :: 91 :: (ds ++ 67 :: r)) 67
  rcases Int.lt_or_le (Lib.indexByte (27 :: 91 :: (ds ++ 67 :: r)) 67) 0 with hn | hn
  · exact absurd hat (Lib.indexByte_none (by omega) _)
  · obtain ⟨o, ho⟩ := Int.eq_ofNat_of_zero_le hn
    obtain ⟨h1, h2⟩ := Lib.indexByte_some ho
    rw [ho]
    rcases Nat.lt_trichotomy o (ds.length + 2) with a | a | a
    · exact absurd h1 (hbefore o a)
    · rw [a]
    · exact absurd hat (h2 _ a)
theorem no_K {ds r : List UInt8} (h : ∀ c ∈ ds, c ≠ 67 ∧ c ≠ 75) (h1 : 1 ≤ ds.length) : Lib.hasPrefix (27 :: 91 :: (ds ++ 67 :: r)) [27, 91, 75] = false := by
  match ds, h1 with
  | d :: ds', _ =>
    have := (h d List.mem_cons_self).2
    simp only [Lib.hasPrefix, List.cons_append, List.isPrefixOf_cons_cons, Bool.and_eq_false_iff]
    right; right; left
    rw [beq_eq_false_iff_ne]
    exact fun e => this e.symm

end Go.Proofs.YtokmiommhfbkeaaGreatDoor

namespace Go.Proofs.YtokmiommhfbkeaaGreatDoor
open Go.RowKit

/-- nothing was changed but blocks of F and what is new -/
structure Fr (F : Nat → Prop) (w w' : World) : Prop where
  os : w'.os = w.os
  tape : w'.tape = w.tape
  output : w'.output = w.output
  size : w.heap.size ≤ w'.heap.size
  block : ∀ k, k < w.heap.size → ¬ F k → w'.heap[k]? = w.heap[k]?
theorem Fr.refl (F : Nat → Prop) (w : World) : Fr F w w := ⟨rfl, rfl, rfl, Nat.le_refl _, fun _ _ _ => rfl⟩
theorem Fr.grown {F : Nat → Prop} {a w w' : World} {row : Option Nat} (h : Fr F a w) (hg : w.grownBy w' row) (hr : ∀ k, row = some k → F k) : Fr F a w' :=
  ⟨hg.os.trans h.os, hg.tape.trans h.tape, hg.output.trans h.output, Nat.le_trans h.size hg.size, fun k hk hF => (hg.block k (Nat.lt_of_lt_of_le hk h.size) (fun e => hF (hr k e.symm))).trans (h.block k hk hF)⟩
theorem Fr.alloc {F : Nat → Prop} {a w : World} (h : Fr F a w) (o : Obj) : Fr F a (w.alloc o) := h.grown (World.grownBy_alloc w o none) (fun _ e => by cases e)
theorem Fr.drewN {F : Nat → Prop} {a w : World} (h : Fr F a w) (n : Nat) : Fr F a (w.drewN n) := ⟨h.os, h.tape, h.output, h.size, h.block⟩
theorem Fr.drew {F : Nat → Prop} {a w : World} (h : Fr F a w) : Fr F a w.drew := ⟨h.os, h.tape, h.output, h.size, h.block⟩
theorem Fr.setCell {F : Nat → Prop} {a w : World} {p : Addr} (h : Fr F a w) (hp : F p.block) (v : Value) : Fr F a (w.setCell p v) :=
  ⟨h.os, h.tape, h.output, by simpa [World.setCell] using h.size, fun k hk hF => (heap_setCell_other w p k v (fun e => hF (e ▸ hp))).trans (h.block k hk hF)⟩
theorem Fr.keep {F : Nat → Prop} {a w w' : World} (h : Fr F a w) (hb : Below w.heap.size w w') : Fr F a w' :=
  h.grown (row := none) ⟨hb.os, hb.tape, hb.output, hb.size, fun k hk _ => hb.block k hk⟩ (fun _ e => by cases e)
theorem Fr.below {F : Nat → Prop} {B : Nat} {w w' : World} (h : Fr F w w') (hF : ∀ k, k < B → ¬ F k) (hB : B ≤ w.heap.size) : Below B w w' :=
  ⟨h.os, h.tape, h.output, h.size, fun k hk => h.block k (Nat.lt_of_lt_of_le hk hB) (hF k hk)⟩

section
variable {P : Program}
theorem run_append_at (w : World) (base : Nat) (t ty e : TypeId) (i : TypeInfo) (z : Value) (size bytes : Nat) (ht : P.underlying t = some (.slice e)) (hi : P.info? e = some i) (hz : i.zero = some z)
    (hsize : i.size = size) (hby : i.bytes = bytes) (hzs : z.cells.size = size) (hsz : 0 < size)
    (v : Value) (n : Nat) (xs : List Value) (hown : w.ownsRow base e size v n xs)
    (a : Addr) (m c : Nat) (news : List Value) (hl : news.length = m * size) (hnews : ∀ j u, news[j]? = some u → w.cell? (a.add j) = some u) (h1 : ∀ u ∈ news, u.oneCell' = true) (hm : 0 < m)
    (h63 : n + m ≤ maxLen) (hbytes : (n + m) * bytes ≤ 140737488355328) (hbase : base ≤ w.heap.size) :
    ∃ v' w', (Builtin.append_ #[t, t] ty #[v, .slice (some a) m c]).run P w = .ok v' w' ∧ w'.ownsRow base e size v' (n + m) (xs ++ news) ∧ w.grownBy w' v.ownBlock ∧
      (v'.ownBlock = v.ownBlock ∨ v'.ownBlock = some w.heap.size) := by
  obtain ⟨v', w', hr, ho, hg, _⟩ := run_append_own (P := P) w base t ty e i z size bytes ht hi hz hsize hby hzs hsz v n xs hown a m c news hl hnews h1 h63 hbytes hbase
  refine ⟨v', w', hr, ho, hg, ?_⟩
  have h63' : ((n + m : Nat) : Int) ≤ 9223372036854775807 := by simp only [maxLen] at h63; omega
  subst hsize
  subst hby
  rcases hown.2 with ⟨rfl, rfl⟩ | ⟨g, cap, cur, rfl, hbg, hgg, hnc, hcm, hcs, htake⟩
  · have hr2 := run_append_nil (P := P) w t ty e i z ht hi hz a m c news hl hnews hm (by omega) (by rw [Nat.zero_add] at hbytes; omega)
    rw [hr] at hr2
    injection hr2 with e1 _
    subst e1
    exact .inr rfl
  · by_cases hroom : n + m ≤ cap
    · obtain ⟨w2, hr2, _⟩ := run_append_fits (P := P) w base t ty e i i.size ht hi rfl g n cap xs hown a m c news hl hnews h1 hroom
      rw [hr] at hr2
      injection hr2 with e1 _
      subst e1
      exact .inl rfl
    · have holds : ∀ j u, xs[j]? = some u → w.cell? ((⟨g, 0, none⟩ : Addr).add j) = some u := hown.cells (g := g) rfl
      have hr2 := run_append_grow (P := P) w t ty e i z ht hi hz ⟨g, 0, none⟩ n cap xs hown.1 holds a m c news hl hnews (by omega) h63' (growslice_fits (by omega) hbytes)
      rw [hr] at hr2
      injection hr2 with e1 _
      subst e1
      exact .inr rfl
theorem wpList_append_at {w : World} {ops : Array Oper} {rest : List Oper} {o : Oper} {a : Act} {Q : Exit → Act → World → Prop} (hgd : o.guard = none) (s x : Operand) (t : TypeId)
    (ho : o.op = .call { callee := .builtin .append, args := #[s, x], argTypes := #[t, t] })
    (base : Nat) (e : TypeId) (i : TypeInfo) (z : Value) (size bytes : Nat) (ht : P.underlying t = some (.slice e)) (hi : P.info? e = some i) (hz : i.zero = some z)
    (hsize : i.size = size) (hby : i.bytes = bytes) (hzs : z.cells.size = size) (hsz : 0 < size)
    (v : Value) (n : Nat) (xs : List Value) (hs : a.eval s = v) (hown : w.ownsRow base e size v n xs)
    (ad : Addr) (m c : Nat) (news : List Value) (hx : a.eval x = .slice (some ad) m c) (hl : news.length = m * size) (hnews : ∀ j u, news[j]? = some u → w.cell? (ad.add j) = some u) (h1 : ∀ u ∈ news, u.oneCell' = true) (hm : 0 < m)
    (h63 : n + m ≤ maxLen) (hbytes : (n + m) * bytes ≤ 140737488355328) (hbase : base ≤ w.heap.size)
    (h : ∀ v' w', w'.ownsRow base e size v' (n + m) (xs ++ news) → w.grownBy w' v.ownBlock → (v'.ownBlock = v.ownBlock ∨ v'.ownBlock = some w.heap.size) → wpList P ops Q rest (a.put o.dst v') w') : wpList P ops Q (o :: rest) a w := by
  refine wpList_plain hgd fun K hK => ?_
  obtain ⟨v', w', hr, h2, h3, h4⟩ := run_append_at (P := P) w base t o.type e i z size bytes ht hi hz hsize hby hzs hsz v n xs hown ad m c news hl hnews h1 hm h63 hbytes hbase
  unfold Oper.wp execOp
  simp only [ho, resolve, invoke, builtin, Sem.run_bind, Sem.run_pure, Result.andThen_ok, List.map_toArray, List.map_cons, List.map_nil, hs, hx, hr]
  exact hK _ _ (h v' w' h2 h3 h4)
end

end Go.Proofs.YtokmiommhfbkeaaGreatDoor

namespace Go.Proofs.YtokmiommhfbkeaaGreatDoor
open Go.RowKit

abbrev bytesV (l : List UInt8) : List Value := l.map fun c => Value.int .u8 (c.toNat : Int)
/-- the law's terminal, in its box -/
def SW (w : World) (B : Nat → Prop) (b : Nat) (x : SC) : Prop :=
  B b ∧ ∃ v, w.heap[b]? = some (.cells #[v, .int .i64 (x.2 : Int)] 52 (0, 0)) ∧ w.ownsRow 0 5 1 v x.1.length (bytesV x.1) ∧ ∀ g, v.ownBlock = some g → B g
def lenOf (v : Value) : Nat := match v with | .string s => s.size | _ => 0
theorem SW.col {w : World} {B : Nat → Prop} {b : Nat} {x : SC} (h : SW w B b x) (k : Nat) : SW (w.setCell ⟨b, 1, none⟩ (.int .i64 (k : Int))) B b (x.1, k) := by
  obtain ⟨hB, v, hk, ho, hf⟩ := h
  refine ⟨hB, v, ?_, ownsRow_setCell_other ho (fun e => buf_ne ho hk (by decide) (Eq.symm e)) _, hf⟩
  rw [heap_setCell_same _ _ _ _ _ _ hk]
  rfl
theorem SW.keep {w w' : World} {B : Nat → Prop} {b : Nat} {x : SC} (h : SW w B b x) (hb : Below w.heap.size w w') : SW w' B b x := by
  obtain ⟨hB, v, hk, ho, hf⟩ := h
  have hg : w.grownBy w' none := ⟨hb.os, hb.tape, hb.output, hb.size, fun k hk _ => hb.block k hk⟩
  exact ⟨hB, v, (hb.block _ (lt_of_block hk)).trans hk, ho.kept hg (by cases v.ownBlock <;> simp), hf⟩
theorem SW.drewN {w : World} {B : Nat → Prop} {b : Nat} {x : SC} (h : SW w B b x) (n : Nat) : SW (w.drewN n) B b x := h

/-- what stands before a text is right: the inversions of Feeds -/
theorem feeds_inv {l : List UInt8} {x y : SC} (h : Feeds l x y) :
    (l = [] ∧ x = y) ∨ (∃ c r, l = c :: r ∧ 32 ≤ c.toNat ∧ c.toNat ≤ 126 ∧ Feeds r (putC c x) y) ∨ (∃ r, l = 8 :: r ∧ 0 < x.2 ∧ Feeds r (x.1, x.2 - 1) y) ∨ (∃ r, l = 13 :: r ∧ Feeds r (x.1, 0) y) ∨
    (∃ r, l = 27 :: 91 :: 75 :: r ∧ Feeds r (x.1.take x.2, x.2) y) ∨ (∃ n r, l = rightL n ++ r ∧ 1 ≤ n ∧ n ≤ 1000 ∧ Feeds r (x.1, x.2 + n.toNat) y) := by
  cases h with
  | nil => exact .inl ⟨rfl, rfl⟩
  | put c r _ _ h1 h2 h => exact .inr (.inl ⟨c, r, rfl, h1, h2, h⟩)
  | back r _ _ h1 h => exact .inr (.inr (.inl ⟨r, rfl, h1, h⟩))
  | cr r _ _ h => exact .inr (.inr (.inr (.inl ⟨r, rfl, h⟩)))
  | erase r _ _ h => exact .inr (.inr (.inr (.inr (.inl ⟨r, rfl, h⟩))))
  | right n r _ _ h1 h2 h => exact .inr (.inr (.inr (.inr (.inr ⟨n, r, rfl, h1, h2, h⟩))))

theorem own_take {w : World} {B e n c m : Nat} {A : Option Addr} {xs : List Value} (h : w.ownsRow B e 1 (.slice A n c) n xs) (hm : m ≤ n) : w.ownsRow B e 1 (.slice A m c) m (xs.take m) := by
  obtain ⟨hl, hh⟩ := h
  refine ⟨by rw [List.length_take]; omega, ?_⟩
  rcases hh with ⟨hv, h0⟩ | ⟨g, cap, cur, he, hB, hg, hcap, hml, hcs, ht⟩
  · injection hv with h1 h2 h3
    exact .inl ⟨by rw [h1, h3, show m = 0 by omega], by omega⟩
  · injection he with h1 h2 h3
    exact .inr ⟨g, cap, cur, by rw [h1, h3], hB, hg, by omega, hml, hcs, by rw [← ht, List.take_take]; congr 1; omega⟩
theorem own_cap {w : World} {B e n c : Nat} {A : Option Addr} {xs : List Value} (h : w.ownsRow B e 1 (.slice A n c) n xs) : n ≤ c := by
  rcases h.2 with ⟨hv, h0⟩ | ⟨g, cap, cur, he, hB, hg, hcap, _⟩
  · omega
  · injection he with h1 h2 h3; omega
theorem SW.cut {w : World} {B : Nat → Prop} {b n c : Nat} {x : SC} {A : Option Addr} (hB : B b) (hk : w.heap[b]? = some (.cells #[.slice A x.1.length c, .int .i64 (x.2 : Int)] 52 (0, 0))) (ho : w.ownsRow 0 5 1 (.slice A x.1.length c) x.1.length (bytesV x.1)) (hf : ∀ g, (Value.slice A x.1.length c).ownBlock = some g → B g) (hn : n = min x.1.length x.2) :
    SW (w.setCell ⟨b, 0, none⟩ (.slice A n c)) B b (x.1.take x.2, x.2) := by
  have h1 := own_take ho (m := n) (by omega)
  refine ⟨hB, .slice A n c, ?_, ?_, fun g hg => hf g (by cases A <;> exact hg)⟩
  · rw [heap_setCell_same _ _ _ _ _ _ hk]; rfl
  · have h2 : (x.1.take x.2).length = n := by rw [List.length_take]; omega
    have h3 : bytesV (x.1.take x.2) = (bytesV x.1).take n := by
      subst hn
      have h4 : x.1.take x.2 = x.1.take (min x.1.length x.2) := by
        rcases Nat.le_total x.1.length x.2 with h | h
        · rw [List.take_of_length_le h, Nat.min_eq_left h, List.take_of_length_le (Nat.le_refl _)]
        · rw [Nat.min_eq_right h]
      rw [h4]
      exact List.map_take
    rw [h2, h3]
    exact ownsRow_setCell_other h1 (fun e => buf_ne h1 hk (by decide) (Eq.symm e)) _
/-- the first byte of a text, and what is behind it -/
theorem first_of {t : ByteArray} {c : UInt8} {r : List UInt8} (h : t.data.toList = c :: r) : ∃ h0 : 0 < t.size, t[0]'h0 = c ∧ t.size = r.length + 1 ∧ (t.extract 1 t.size).data.toList = r := by
  have hsz : t.size = r.length + 1 := by rw [← size_toList, h]; rfl
  refine ⟨by omega, ?_, hsz, ?_⟩
  · have : t.data.toList[0]? = some c := by rw [h]; rfl
    have h2 : t.data.toList[0]? = some (t[0]'(by omega)) := by
      rw [List.getElem?_eq_getElem (by rw [size_toList]; omega)]; rfl
    rw [h2] at this
    exact Option.some.inj this
  · rw [Lib.extract_data, h, List.drop_succ_cons, List.drop_zero, List.take_of_length_le (by omega)]

theorem byteInfo : (Tryz.prog.info? 5).map (fun i => (i.zero, i.size, i.bytes)) = some (some (.int .u8 0), 1, 1) := by kernel_rfl
theorem own_some {w : World} {B e n c : Nat} {A : Option Addr} {xs : List Value} (h : w.ownsRow B e 1 (.slice A n c) n xs) (hn : 0 < n) : ∃ g, A = some ⟨g, 0, none⟩ := by
  rcases h.2 with ⟨hv, h0⟩ | ⟨g, cap, cur, he, _⟩
  · omega
  · injection he with h1 _ _
    exact ⟨g, h1⟩
/-- how long the row is -/
def rowN (W : World) (b : Nat) : Nat := match W.cell? ⟨b, 0, none⟩ with | some (.slice _ n _) => n | _ => 0
theorem SW.rowN {w : World} {B : Nat → Prop} {b : Nat} {x : SC} (h : SW w B b x) : rowN w b = x.1.length := by
  obtain ⟨hB, v, hk, ho, hf⟩ := h
  obtain ⟨A, c, rfl⟩ := own_form ho
  simp [Go.Proofs.YtokmiommhfbkeaaGreatDoor.rowN, World.cell?, hk]
theorem SW.grow {w w' : World} {B : Nat → Prop} {b : Nat} {x : SC} {v v' : Value} (hB : B b) (hk : w.heap[b]? = some (.cells #[v, .int .i64 (x.2 : Int)] 52 (0, 0))) (ho : w.ownsRow 0 5 1 v x.1.length (bytesV x.1))
    (hg : w.grownBy w' v.ownBlock) (ho' : w'.ownsRow 0 5 1 v' (x.1.length + 1) (bytesV x.1 ++ [.int .u8 32])) (hf : ∀ g, v'.ownBlock = some g → B g) : SW (w'.setCell ⟨b, 0, none⟩ v') B b (x.1 ++ [32], x.2) := by
  have hk' := (hg.block b (lt_of_block hk) (buf_ne ho hk (by decide))).trans hk
  refine ⟨hB, v', ?_, ?_, hf⟩
  · rw [heap_setCell_same _ _ _ _ _ _ hk']; rfl
  · have h1 : (x.1 ++ [(32 : UInt8)]).length = x.1.length + 1 := by simp
    have h2 : bytesV (x.1 ++ [(32 : UInt8)]) = bytesV x.1 ++ [.int .u8 32] := by simp [bytesV]
    show (w'.setCell ⟨b, 0, none⟩ v').ownsRow 0 _ 1 v' (x.1 ++ [(32 : UInt8)]).length (bytesV (x.1 ++ [(32 : UInt8)]))
    rw [h1, h2]
    exact ownsRow_setCell_other ho' (fun e => buf_ne ho' hk' (by decide) (Eq.symm e)) _
theorem SW.stored {w : World} {B : Nat → Prop} {b c g : Nat} {x : SC} (u : UInt8) (hB : B b) (hk : w.heap[b]? = some (.cells #[.slice (some ⟨g, 0, none⟩) x.1.length c, .int .i64 (x.2 : Int)] 52 (0, 0))) (ho : w.ownsRow 0 5 1 (.slice (some ⟨g, 0, none⟩) x.1.length c) x.1.length (bytesV x.1)) (hf : B g) :
    SW (w.setCell ⟨g, x.2, none⟩ (.int .u8 (u.toNat : Int))) B b (x.1.set x.2 u, x.2) := by
  have h1 := ho.stored x.2 (.int .u8 (u.toNat : Int))
  have hk' := (h1.2.block b (lt_of_block hk) (buf_ne ho hk (by decide))).trans hk
  refine ⟨hB, .slice (some ⟨g, 0, none⟩) x.1.length c, hk', ?_, fun k hk => by cases hk; exact hf⟩
  have h2 : bytesV (x.1.set x.2 u) = (bytesV x.1).set x.2 (.int .u8 (u.toNat : Int)) := List.map_set
  show World.ownsRow _ _ _ _ _ (x.1.set x.2 u).length _
  rw [List.length_set, h2]
  exact h1.1

set_option maxRecDepth 100000 in
set_option maxHeartbeats 3200000 in
theorem feed_any (s : ByteArray) (B : Nat → Prop) (b M : Nat) (x y : SC) (w : World) (hM : M ≤ 1000000000) (hf : Feeds s.data.toList x y) (hw : SW w B b x) (hB : ∀ k, w.heap.size ≤ k → B k) (h1 : x.2 + 1001 * s.size ≤ M) (h2 : x.1.length ≤ M) :
    Calls Tryz.prog 22 #[.pointer (some ⟨b, 0, none⟩), .string s] w fun e w' => e = .returned (.bool true) ∧ SW w' B b y ∧ Fr B w w' ∧ y.1.length ≤ M + 1 := by
  go_enter Tryz.func22, Tryz.ntmps22
  go_wp2_with fail
  go_loopw [1] (fun i wr => ∃ (t : ByteArray) (z : SC), i = .string t ∧ Hid (Feeds t.data.toList z y) ∧ Hid (SW wr B b z) ∧ Hid (Fr B w wr) ∧ z.2 + 1001 * t.size ≤ M ∧ z.1.length ≤ M + 1) (fun i _ => lenOf i)
  case atStart => exact ⟨s, x, rfl, hf, hw, Fr.refl _ _, h1, by omega⟩
  case round =>
    obtain ⟨t, z, rfl, HF, HS, HBw, hz1, hz2⟩ := hrel
    rcases feeds_inv HF.out with ⟨h0, rfl⟩ | ⟨c1, r, h0, hc1, hc2, hr⟩ | ⟨r, h0, hp, hr⟩ | ⟨r, h0, hr⟩ | ⟨r, h0, hr⟩ | ⟨n, r, h0, hn1, hn2, hr⟩
    · have ht : t = ⟨#[]⟩ := ByteArray.ext (Array.ext' h0)
      subst ht
      have HS' := Lib.hid HS.out
      go_wp2_with fail
      go_ret
      exact ⟨rfl, HS'.out, HBw.out⟩
    · -- put
      obtain ⟨hp0, e0, hsz, hrest⟩ := first_of h0
      have u0 : ((t[0]'hp0).toNat : Int) = (c1.toNat : Int) := by rw [e0]
      have d1 : decide ((32 : Int) ≤ (c1.toNat : Int)) = true := by rw [decide_eq_true_iff]; omega
      have d2 : decide ((c1.toNat : Int) ≤ 126) = true := by rw [decide_eq_true_iff]; omega
      have HR := Lib.hid hrest
      have HFR := Lib.hid hr
      clear hrest hr h0 e0 hf hw HF
      go_wp2_with fail
      have HS0 := HS
      have HBw0 := HBw
      clear HS HBw
      go_loopw [] (fun W => ∃ k : Nat, k ≤ z.2 + 1 - z.1.length ∧ Hid (SW W B b (z.1 ++ List.replicate k 32, z.2)) ∧ Hid (Fr B w W)) (fun W => z.2 + 1 - rowN W b)
      case atStart => exact ⟨0, Nat.zero_le _, by rw [List.replicate_zero, List.append_nil]; exact HS0.out, HBw0.out⟩
      case round =>
        obtain ⟨k, hk, HS, HBw⟩ := hrel
        have hrn := Lib.hid HS.out.rowN
        obtain ⟨hBb, v, hkk, ho, hf'⟩ := HS.out
        obtain ⟨A, c, rfl⟩ := own_form ho
        have hlen : (z.1 ++ List.replicate k (32 : UInt8)).length = z.1.length + k := by simp
        dsimp only at hkk ho hrn hf'
        rw [hlen] at hkk ho hrn hf'
        have HO := Lib.hid ho
        have HK := Lib.hid hkk
        have c0 : ∀ j, wr.cell? ⟨b, j, none⟩ = #[Value.slice A (z.1.length + k) c, Value.int .i64 (z.2 : Int)][j]? := fun j => by simp [World.cell?, hkk]
        have z0 : ∀ j, wr.frozen? ⟨b, j, none⟩ = false := fun j => by simp [World.frozen?, hkk]
        have HF1 := Lib.hid hf'
        clear ho hkk hlen hf'
        by_cases hlt : z.1.length + k ≤ z.2
        · go_upto_region 6 with (go_quiet (fail))
          have c5 : ∀ j, (wr.drewN nq).cell? ⟨b, j, none⟩ = #[Value.slice A (z.1.length + k) c, Value.int .i64 (z.2 : Int)][j]? := c0
          have z5 : ∀ j, (wr.drewN nq).frozen? ⟨b, j, none⟩ = false := z0
          have HO5 : Hid ((wr.drewN nq).ownsRow 0 5 1 (.slice A (z.1.length + k) c) (z.1.length + k) (bytesV (z.1 ++ List.replicate k 32))) := HO
          have HK5 : Hid ((wr.drewN nq).heap[b]? = some (.cells #[.slice A (z.1.length + k) c, .int .i64 (z.2 : Int)] 52 (0, 0))) := HK
          have HB5 := Lib.hid (HBw.out.drewN nq)
          clear c0 z0 HO HK HS
          generalize wr.drewN nq = W5 at *
          obtain ⟨i0, hi, hz0, hz1, hz2⟩ := info_parts byteInfo
          have hg5 := World.grownBy_alloc W5 (.cells #[.int .u8 32] 5) none
          have HO6 := Lib.hid (HO5.out.kept hg5 (by cases (Value.slice A (z.1.length + k) c).ownBlock <;> simp))
          have hlt : b < W5.heap.size := lt_of_block HK5.out
          have HK6 := Lib.hid ((hg5.block b hlt (by simp)).trans HK5.out)
          have HB6 := Lib.hid (HB5.out.alloc (.cells #[.int .u8 32] 5))
          have HN := Lib.hid (show ∀ j u, ([Value.int .u8 32] : List Value)[j]? = some u → (W5.alloc (.cells #[.int .u8 32] 5)).cell? ((⟨W5.heap.size, 0, none⟩ : Addr).add j) = some u from fun j u hu => by
            have hh := heap_alloc_new W5 (.cells #[.int .u8 32] 5)
            match j, hu with
            | 0, hu => rw [← hu, WideShapes.add_plain]; unfold World.cell?; dsimp only; rw [hh]; rfl
            | j + 1, hu => simp at hu)
          clear hg5 hlt
          go_wp2_with (at_builtin; refine wpList_append_at rfl _ _ 50 rfl 0 5 i0 (.int .u8 0) 1 1 Tryz.underlying50 hi hz0 hz1 hz2 rfl (by decide) _ (z.1.length + k) _ rfl HO6.out ⟨W5.heap.size, 0, none⟩ 1 1 [.int .u8 32] rfl rfl HN.out (fun u hu => by simp at hu; subst hu; rfl) (by decide) ?c4 ?c5 (Nat.zero_le _) ?_)
          case c4 => unfold maxLen; omega
          case c5 => omega
          intro v7 w7 hown7 hg7 hat7
          have HF7 := Lib.hid (show ∀ g, v7.ownBlock = some g → B g from fun g hg => by
            rcases hat7 with e | e
            · exact HF1.out g (e ▸ hg)
            · rw [e] at hg
              injection hg with hg
              exact hB g (by have := HB5.out.size; omega))
          have HS7 := Lib.hid (SW.grow (x := (z.1 ++ List.replicate k 32, z.2)) hBb (by simpa using HK6.out) (by simpa using HO6.out) hg7 (by simpa using hown7) HF7.out)
          have HB7 := Lib.hid (HB6.out.grown hg7 HF1.out)
          have HK7 := (hg7.block b (lt_of_block HK6.out) (buf_ne HO6.out HK6.out (by decide))).trans HK6.out
          have c7 : ∀ j, w7.cell? ⟨b, j, none⟩ = #[Value.slice A (z.1.length + k) c, Value.int .i64 (z.2 : Int)][j]? := fun j => by simp [World.cell?, HK7]
          have z7 : ∀ j, w7.frozen? ⟨b, j, none⟩ = false := fun j => by simp [World.frozen?, HK7]
          obtain ⟨A7, c7', rfl⟩ := own_form hown7
          clear hown7 hg7 HK7 c5 z5 hat7
          go_wp2_with fail
          have hrep : z.1 ++ List.replicate (k + 1) (32 : UInt8) = z.1 ++ List.replicate k 32 ++ [32] := by rw [List.replicate_succ', List.append_assoc]
          go_roundw
          case rel =>
            refine ⟨k + 1, by omega, ?_, HB7.out.setCell (p := ⟨b, 0, none⟩) hBb _⟩
            show SW _ B b (z.1 ++ List.replicate (k + 1) 32, z.2)
            rw [hrep]
            exact HS7.out
          case measure =>
            have h9 := HS7.out.rowN
            have h8 := hrn.out
            simp only [List.length_append, List.length_replicate, List.length_cons, List.length_nil] at h9
            rw [h9, h8]
            omega
        · have hkz : k = z.2 + 1 - z.1.length := by omega
          have hlt : z.2 < z.1.length + k := by omega
          obtain ⟨g, rfl⟩ := own_some HO.out (by omega)
          go_upto_region 7 with (go_quiet (fail))
          have c5 : ∀ j, (wr.drewN nq).cell? ⟨b, j, none⟩ = #[Value.slice (some ⟨g, 0, none⟩) (z.1.length + k) c, Value.int .i64 (z.2 : Int)][j]? := c0
          have z5 : ∀ j, (wr.drewN nq).frozen? ⟨b, j, none⟩ = false := z0
          have HO5 : Hid ((wr.drewN nq).ownsRow 0 5 1 (.slice (some ⟨g, 0, none⟩) (z.1.length + k) c) (z.1.length + k) (bytesV (z.1 ++ List.replicate k 32))) := HO
          have HK5 : Hid ((wr.drewN nq).heap[b]? = some (.cells #[.slice (some ⟨g, 0, none⟩) (z.1.length + k) c, .int .i64 (z.2 : Int)] 52 (0, 0))) := HK
          have HB5 := Lib.hid (HBw.out.drewN nq)
          clear c0 z0 HO HK HS hrn
          generalize wr.drewN nq = W5 at *
          have hfz := HO5.out.frozenAt z.2
          obtain ⟨v0, hcl⟩ : ∃ v0, W5.cell? ⟨g, z.2, none⟩ = some v0 := ⟨_, (HO5.out.cellAt z.2 (by omega)).trans (List.getElem?_eq_getElem (by rw [HO5.out.1]; omega))⟩
          have hIn : (z.2 : Int) < (z.1.length : Int) + (k : Int) := by omega
          have HKZ := Lib.hid hkz
          clear hkz
          have hSt := SW.stored (x := (z.1 ++ List.replicate k 32, z.2)) (c := c) (g := g) c1 hBb (by simpa using HK5.out) (by simpa using HO5.out) (HF1.out g rfl)
          have HSt := Lib.hid hSt
          clear hSt
          go_region
          have HS8 : Hid (SW (W5.setCell ⟨g, z.2, none⟩ (.int .u8 (c1.toNat : Int))).drew B b ((z.1 ++ List.replicate k 32).set z.2 c1, z.2)) := Lib.hid (HSt.out.drewN 1)
          have HB8 := Lib.hid ((HB5.out.setCell (p := ⟨g, z.2, none⟩) (HF1.out g rfl) (.int .u8 (c1.toNat : Int))).drew)
          clear hfz hcl HO5 HK5 HB5 HSt c5 z5
          generalize (W5.setCell ⟨g, z.2, none⟩ (.int .u8 (c1.toNat : Int))).drew = W8 at *
          obtain ⟨_, v8, hk8, _, _⟩ := HS8.out
          have c8 : ∀ j, W8.cell? ⟨b, j, none⟩ = #[v8, Value.int .i64 (z.2 : Int)][j]? := fun j => by simp [World.cell?, hk8]
          have z8 : ∀ j, W8.frozen? ⟨b, j, none⟩ = false := fun j => by simp [World.frozen?, hk8]
          have e8 : IntKind.i64.wrap ((z.2 : Int) + 1) = (z.2 : Int) + 1 := IntWalk.i64_in _ (by omega)
          have hs9 := HS8.out.col (z.2 + 1)
          have hcol : ((z.2 + 1 : Nat) : Int) = (z.2 : Int) + 1 := by omega
          rw [hcol] at hs9
          have HS9 := Lib.hid hs9
          have HB9 := Lib.hid (HB8.out.setCell (p := ⟨b, 1, none⟩) hBb (.int .i64 ((z.2 : Int) + 1)))
          clear hk8 hs9 hcol
          go_wp2_with fail
          refine ⟨⟨t.extract 1 t.size, putC c1 z, by rw [hsz], ?_, ?_, HB9.out, ?_, ?_⟩, ?_⟩
          · show Feeds (t.extract 1 t.size).data.toList (putC c1 z) y
            rw [HR.out]; exact HFR.out
          · show SW _ B b (putC c1 z)
            unfold putC
            rw [← HKZ.out]
            exact HS9.out
          · show z.2 + 1 + 1001 * (t.extract 1 t.size).size ≤ M
            rw [← size_toList, HR.out]; omega
          · show ((z.1 ++ List.replicate (z.2 + 1 - z.1.length) 32).set z.2 c1).length ≤ M + 1
            rw [List.length_set, List.length_append, List.length_replicate]; omega
          · rw [← hsz]
            show (t.extract 1 t.size).size < t.size
            rw [← size_toList, HR.out]; omega
    · -- back
      obtain ⟨hp0, e0, hsz, hrest⟩ := first_of h0
      have u0 : ((t[0]'hp0).toNat : Int) = 8 := by rw [e0]; rfl
      obtain ⟨hBb, v, hk, ho, hf'⟩ := HS.out
      have c0 : ∀ j, wr.cell? ⟨b, j, none⟩ = #[v, Value.int .i64 (z.2 : Int)][j]? := fun j => by simp [World.cell?, hk]
      have z0 : ∀ j, wr.frozen? ⟨b, j, none⟩ = false := fun j => by simp [World.frozen?, hk]
      have HR := Lib.hid hrest
      have hcol : ((z.2 - 1 : Nat) : Int) = (z.2 : Int) - 1 := by omega
      have hs2 := HS.out.col (z.2 - 1)
      rw [hcol] at hs2
      have HS2 := Lib.hid hs2
      have HB2 := Lib.hid (HBw.out.setCell (p := ⟨b, 1, none⟩) hBb (.int .i64 ((z.2 : Int) - 1)))
      have HFR := Lib.hid hr
      have hsub : IntKind.i64.wrap ((z.2 : Int) - 1) = (z.2 : Int) - 1 := IntWalk.i64_in _ (by omega)
      have hpos : decide ((0 : Int) < (z.2 : Int)) = true := by rw [decide_eq_true_iff]; omega
      clear hrest hk ho hf' hr h0 e0 hf hw HF HS hs2 hcol
      go_wp2_with fail
      refine ⟨⟨t.extract 1 t.size, (z.1, z.2 - 1), by rw [hsz], ?_, HS2.out, HB2.out, ?_, hz2⟩, ?_⟩
      · show Feeds (t.extract 1 t.size).data.toList (z.1, z.2 - 1) y
        rw [HR.out]; exact HFR.out
      · show z.2 - 1 + 1001 * (t.extract 1 t.size).size ≤ M
        rw [← size_toList, HR.out]; omega
      · rw [← hsz]
        show (t.extract 1 t.size).size < t.size
        rw [← size_toList, HR.out]; omega
    · -- carriage return
      obtain ⟨hp0, e0, hsz, hrest⟩ := first_of h0
      have u0 : ((t[0]'hp0).toNat : Int) = 13 := by rw [e0]; rfl
      obtain ⟨hBb, v, hk, ho, hf'⟩ := HS.out
      have c0 : ∀ j, wr.cell? ⟨b, j, none⟩ = #[v, Value.int .i64 (z.2 : Int)][j]? := fun j => by simp [World.cell?, hk]
      have z0 : ∀ j, wr.frozen? ⟨b, j, none⟩ = false := fun j => by simp [World.frozen?, hk]
      have HR := Lib.hid hrest
      have HS2 := Lib.hid (HS.out.col 0)
      have HB2 := Lib.hid (HBw.out.setCell (p := ⟨b, 1, none⟩) hBb (.int .i64 ((0 : Nat) : Int)))
      have HFR := Lib.hid hr
      clear hrest hk ho hf' hr h0 e0 hf hw HF HS
      go_wp2_with fail
      refine ⟨⟨t.extract 1 t.size, (z.1, 0), by rw [hsz], ?_, HS2.out, HB2.out, ?_, hz2⟩, ?_⟩
      · show Feeds (t.extract 1 t.size).data.toList (z.1, 0) y
        rw [HR.out]; exact HFR.out
      · show 0 + 1001 * (t.extract 1 t.size).size ≤ M
        rw [← size_toList, HR.out]; omega
      · rw [← hsz]
        show (t.extract 1 t.size).size < t.size
        rw [← size_toList, HR.out]; omega
    · -- the rest of the row is erased
      obtain ⟨hp0, e0, hsz0, hrest0⟩ := first_of h0
      have hsz : t.size = r.length + 1 + 1 + 1 := by rw [hsz0]; rfl
      have u0 : ((t[0]'hp0).toNat : Int) = 27 := by rw [e0]; rfl
      have HPF := Lib.hid (fun W => (Tryz.strings_HasPrefix t ⟨#[27, 91, 75]⟩ W).mono fun e w' hh => show e = .returned (.bool true) ∧ W = w' from ⟨by rw [hh.1, h0]; rfl, hh.2.symm⟩)
      have hrest : ((t.extract 2 t.size).extract 1 (t.size - 2)).data.toList = r := by
        rw [Lib.extract_data, Lib.extract_data, h0, hsz]
        simp
      obtain ⟨hBb, v, hk, ho, hf'⟩ := HS.out
      obtain ⟨A, c, rfl⟩ := own_form ho
      have hcap := own_cap ho
      have c0 : ∀ j, wr.cell? ⟨b, j, none⟩ = #[Value.slice A z.1.length c, Value.int .i64 (z.2 : Int)][j]? := fun j => by simp [World.cell?, hk]
      have z0 : ∀ j, wr.frozen? ⟨b, j, none⟩ = false := fun j => by simp [World.frozen?, hk]
      have HR := Lib.hid hrest
      have HS2 := Lib.hid (SW.cut hBb hk ho hf' rfl)
      have HB2 := Lib.hid (HBw.out.setCell (p := ⟨b, 0, none⟩) hBb (.slice A (min z.1.length z.2) c))
      have HFR := Lib.hid hr
      have HM1 := Lib.hid (show (0 : Int) ≤ min (z.1.length : Int) (z.2 : Int) ∧ min (z.1.length : Int) (z.2 : Int) ≤ (c : Int) by omega)
      have HM2 := Lib.hid (show (min (z.1.length : Int) (z.2 : Int)).toNat = min z.1.length z.2 by omega)
      clear hrest hrest0 hk ho hf' hr h0 e0 hf hw HF HS hsz0
      go_wp2_with (go_at_call 26; refine (HPF.out _).mono ?_; rintro e w' ⟨rfl, rfl⟩)
      go_still_tail 18, (by kernel_rfl)
      refine wpStill_step (fun K hK => ?_)
      go_simp
      rw [if_pos HM1.out, HM2.out]
      refine ⟨rfl, hK _ ?_⟩
      clear hK K
      repeat still_step
      refine wpStill_nil ?_
      go_wp2_with fail
      rw [← hsz, show r.length + 1 = t.size - 2 by omega]
      have hlen : ((t.extract 2 t.size).extract 1 (t.size - 2)).size = r.length := by rw [← size_toList, HR.out]
      refine ⟨⟨(t.extract 2 t.size).extract 1 (t.size - 2), (z.1.take z.2, z.2), rfl, ?_, HS2.out, HB2.out.drew, ?_, ?_⟩, ?_⟩
      · show Feeds ((t.extract 2 t.size).extract 1 (t.size - 2)).data.toList (z.1.take z.2, z.2) y
        rw [HR.out]; exact HFR.out
      · show z.2 + 1001 * ((t.extract 2 t.size).extract 1 (t.size - 2)).size ≤ M
        rw [hlen]; omega
      · show (z.1.take z.2).length ≤ M + 1
        rw [List.length_take]; omega
      · show ((t.extract 2 t.size).extract 1 (t.size - 2)).size < t.size
        rw [hlen]; omega
    · -- to the right
      obtain ⟨q1, q2, q3, q4⟩ := num_ok hn1 hn2
      have h0' : t.data.toList = 27 :: 91 :: (Lib.itoa n ++ 67 :: r) := by rw [h0]; simp [rightL]
      generalize Lib.itoa n = ds at *
      obtain ⟨hp0, e0, hsz0, _⟩ := first_of h0'
      have hsz : t.size = ds.length + r.length + 3 := by rw [hsz0]; simp only [List.length_cons, List.length_append]; omega
      have u0 : ((t[0]'hp0).toNat : Int) = 27 := by rw [e0]; rfl
      have HPK := Lib.hid (fun W => (Tryz.strings_HasPrefix t ⟨#[27, 91, 75]⟩ W).mono fun e w' hh => show e = .returned (.bool false) ∧ W = w' from ⟨by rw [hh.1, h0']; exact ret_bool (no_K q3 q1), hh.2.symm⟩)
      have HP2 := Lib.hid (fun W => (Tryz.strings_HasPrefix t ⟨#[27, 91]⟩ W).mono fun e w' hh => show e = .returned (.bool true) ∧ W = w' from ⟨by rw [hh.1, h0']; rfl, hh.2.symm⟩)
      have HIX := Lib.hid (fun W => (Tryz.strings_IndexByte t 67 W).mono fun e w' hh => show e = .returned (.int .i64 ((ds.length : Int) + 2)) ∧ W = w' from ⟨by rw [hh.1, h0']; exact ret_int (index_C q3), hh.2.symm⟩)
      have hex : (t.extract 2 (ds.length + 2)).data.toList = ds := by
        rw [Lib.extract_data, h0', List.drop_succ_cons, List.drop_succ_cons, List.drop_zero, Nat.add_sub_cancel, List.take_left' rfl]
      have HAT := Lib.hid (fun W => Tryz.strconv_Atoi (t.extract 2 (ds.length + 2)) n (by rw [← size_toList, hex]; omega) (by rw [hex]; exact q4) W)
      obtain ⟨hBb, v, hk, ho, hf'⟩ := HS.out
      have c0 : ∀ j, wr.cell? ⟨b, j, none⟩ = #[v, Value.int .i64 (z.2 : Int)][j]? := fun j => by simp [World.cell?, hk]
      have z0 : ∀ j, wr.frozen? ⟨b, j, none⟩ = false := fun j => by simp [World.frozen?, hk]
      have HFR := Lib.hid hr
      have H0 := Lib.hid h0'
      have hx1 : ¬ (ds.length : Int) + 2 < 3 := by omega
      clear hk ho hf' hr h0 h0' e0 hf hw HF hsz0 q3 q4 hex
      go_wp2_with (first | (go_at_call 26; refine (HPK.out _).mono ?_; rintro e w' ⟨rfl, rfl⟩) | (go_at_call 26; refine (HP2.out _).mono ?_; rintro e w' ⟨rfl, rfl⟩) | (go_at_call 58; refine (HIX.out _).mono ?_; rintro e w' ⟨rfl, rfl⟩))
      refine (HAT.out _).mono ?_
      rintro e w5 ⟨rfl, tt, hw5⟩
      have hb5 : Below wr.heap.size wr w5 := by rw [hw5]; exact Lib.bytesWorld_below wr _ tt
      have HS5 := Lib.hid (HS.out.keep hb5)
      have HB5 := Lib.hid (HBw.out.keep hb5)
      clear hw5 hb5 c0 z0
      obtain ⟨hBb5, v5, hk5, _, _⟩ := HS5.out
      have c0 : ∀ j, w5.cell? ⟨b, j, none⟩ = #[v5, Value.int .i64 (z.2 : Int)][j]? := fun j => by simp [World.cell?, hk5]
      have z0 : ∀ j, w5.frozen? ⟨b, j, none⟩ = false := fun j => by simp [World.frozen?, hk5]
      have d1 : decide (n < 1) = false := by rw [decide_eq_false_iff_not]; omega
      have d2 : decide (1000 < n) = false := by rw [decide_eq_false_iff_not]; omega
      have e1 : IntKind.i64.wrap ((z.2 : Int) + n) = (z.2 : Int) + n := IntWalk.i64_in _ (by omega)
      have hcol : ((z.2 + n.toNat : Nat) : Int) = (z.2 : Int) + n := by omega
      have hs2 := HS5.out.col (z.2 + n.toNat)
      rw [hcol] at hs2
      have HS2 := Lib.hid hs2
      have HB2 := Lib.hid (HB5.out.setCell (p := ⟨b, 1, none⟩) hBb (.int .i64 ((z.2 : Int) + n)))
      clear hk5 hs2 hcol
      go_wp2_with fail
      have hd : (27 :: 91 :: (ds ++ 67 :: r)).drop (ds.length + 2) = 67 :: r := by rw [List.drop_succ_cons, List.drop_succ_cons, List.drop_left' rfl]
      have hex2 : ((t.extract (ds.length + 2) (ds.length + r.length + 3)).extract 1 (ds.length + r.length + 1 - ds.length)).data.toList = r := by
        rw [Lib.extract_data, Lib.extract_data, H0.out, hd, List.take_of_length_le (l := 67 :: r) (by simp; omega), List.drop_succ_cons, List.drop_zero, List.take_of_length_le (by omega)]
      have hlen : ((t.extract (ds.length + 2) (ds.length + r.length + 3)).extract 1 (ds.length + r.length + 1 - ds.length)).size = r.length := by rw [← size_toList, hex2]
      refine ⟨⟨(t.extract (ds.length + 2) (ds.length + r.length + 3)).extract 1 (ds.length + r.length + 1 - ds.length), (z.1, z.2 + n.toNat), rfl, ?_, HS2.out, HB2.out, ?_, hz2⟩, ?_⟩
      · show Feeds ((t.extract (ds.length + 2) (ds.length + r.length + 3)).extract 1 (ds.length + r.length + 1 - ds.length)).data.toList (z.1, z.2 + n.toNat) y
        rw [hex2]; exact HFR.out
      · show z.2 + n.toNat + 1001 * ((t.extract (ds.length + 2) (ds.length + r.length + 3)).extract 1 (ds.length + r.length + 1 - ds.length)).size ≤ M
        rw [hlen]; omega
      · show ((t.extract (ds.length + 2) (ds.length + r.length + 3)).extract 1 (ds.length + r.length + 1 - ds.length)).size < t.size
        rw [hlen]; omega

end Go.Proofs.YtokmiommhfbkeaaGreatDoor
