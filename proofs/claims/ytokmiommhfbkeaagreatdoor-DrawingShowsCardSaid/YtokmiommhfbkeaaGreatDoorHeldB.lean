/- A region that draws its order, whose last operations come in one order: one append of one element of several cells. A law on regions alone; no program in sight. -/
import Derived.Test.YtokmiommhfbkeaaGreatDoorHeld
import Derived.Below
namespace Go.Proofs.YtokmiommhfbkeaaGreatDoor
open Go Go.RowKit

theorem one_append {P : Program} {ops : Array Oper} {Q : Exit → Act → World → Prop} {md : Region.Mode} {K : Act → World → Prop} {n g : Nat} {ib : Nat} {ts tx tb ta : Tmp} {T e : TypeId} {ob oa : Oper} {i : TypeInfo} {z : Value} {bytes size B m : Nat} {v y : Value} {xs : List Value} {ys : Array Value} {L : Array Bool} {a : Act} {w : World}
    (hb : ops[ib]? = some ob) (ha : ops[ib + 1]? = some oa) (gb : ob.guard = none) (ga : oa.guard = none) (db : ob.dst = some tb) (da : oa.dst = some ta)
    (opb : ob.op = .buildSlice T 1 #[(0, .tmp tx)]) (opa : oa.op = .call { callee := .builtin .append, args := #[.tmp ts, .tmp tb], argTypes := #[T, T] })
    (ht : P.underlying T = some (.slice e)) (hi : P.info? e = some i) (hz : i.zero = some z) (hs : i.size = size) (hby : i.bytes = bytes) (hzs : z.cells.size = size) (hsz : 0 < size) (hs2 : size ≤ 1000)
    (hf : Instr.fill (fun j => some (j * size, size)) ((Array.range (1 * size)).map (z.cells[· % z.cells.size]!)) [(0, y)] = some ys) (hys : ys.size = size) (h1 : ∀ u ∈ ys.toList, u.oneCell' = true)
    (r1 : Region.ready md ops L = [ib]) (r2 : Region.ready md ops (L.setIfInBounds ib true) = [ib + 1]) (hlt : ib + 1 < n) (hseq : Region.seqB md ops g n ((L.setIfInBounds ib true).setIfInBounds (ib + 1) true) = true)
    (hsb : ts ≠ tb) (htb : tb < a.tmps.size) (q1 : a.eval (.tmp ts) = v) (q2 : a.eval (.tmp tx) = y)
    (o1 : w.ownsRow B e size v m xs) (hB : B ≤ w.heap.size) (m1 : m + 1 ≤ maxLen) (k1 : (m + 1) * bytes ≤ 140737488355328)
    (h : ∀ u v' w', Two w v.ownBlock v.ownBlock w' → w'.ownsRow B e size v' (m + 1) (xs ++ ys.toList) → (v'.ownBlock = v.ownBlock ∨ ∃ k, v'.ownBlock = some k ∧ w.heap.size ≤ k) → K ((a.put (some tb) u).put (some ta) v') w') :
    wpAnyT P md ops Q (Two w v.ownBlock v.ownBlock) n g K 2 L a w := by
  have S0 := Two.refl w v.ownBlock v.ownBlock
  refine wpAnyT_one ib r1 (by omega) ?_
  unfold wpOp
  simp only [hb]
  rw [if_pos (by simp [Region.wanted, gb])]
  left
  refine wp_buildSlice T e 1 #[(0, .tmp tx)] opb ys i z ht hi hz (by rw [hs]; omega) (by rw [hs]; omega) (by rw [hs]; simpa [q2] using hf) ?_
  rw [db]
  refine ⟨S0.alloc _, ?_⟩
  refine wpAnyT_one (ib + 1) r2 hlt ?_
  have hk : (w.alloc (.cells ys e)).heap[w.heap.size]? = some (.cells ys e (0, 0)) := heap_alloc_new w _
  have p1 := o1.alloc (.cells ys e)
  have t1 := S0.alloc (.cells ys e)
  have hb1 : B ≤ (w.alloc (.cells ys e)).heap.size := by have := hB; simp; omega
  have hlen : ys.toList.length = 1 * size := by simp [hys]
  obtain ⟨v', w', hr, h2, h3, _, h5⟩ := run_append_own_at (P := P) (w.alloc (.cells ys e)) B T oa.type e i z size bytes ht hi hz hs hby hzs hsz v m xs p1 ⟨w.heap.size, 0, none⟩ 1 1 ys.toList hlen (fun j u hj => by
    rw [WideShapes.add_plain, Nat.zero_add]
    unfold World.cell?
    simp only [hk]
    simpa using hj) h1 m1 k1 hb1
  unfold wpOp
  simp only [ha]
  rw [if_pos (by simp [Region.wanted, ga])]
  left
  unfold Oper.wp execOp
  simp only [opa, resolve, invoke, builtin, Sem.run_bind, Sem.run_pure, Result.andThen_ok, List.map_toArray, List.map_cons, List.map_nil, (eval_other a (.slice (some ⟨w.heap.size, 0, none⟩) 1 1) (Ne.symm hsb)).trans q1, eval_own a (.slice (some ⟨w.heap.size, 0, none⟩) 1 1) htb, hr, Oper.upon_value, da]
  have t2 := t1.grown h3 (.inr (.inl rfl))
  exact ⟨t2, hseq, h _ v' w' t2 h2 (h5.imp id fun hk => ⟨_, hk, t1.size⟩)⟩

theorem fill2 (z x y : Value) : Instr.fill (fun j => some (j * 2, 2)) ((Array.range (1 * 2)).map (z.cells[· % z.cells.size]!)) [(0, .agg #[x, y])] = some #[x, y] := by
  simp [Instr.fill, Value.cells, show Array.range 2 = #[0, 1] from rfl]
theorem two_below' {w w' : World} {B B' e s n : Nat} {v : Value} {xs : List Value} (hT : Two w.drew v.ownBlock v.ownBlock w') (o : w.ownsRow B e s v n xs) (hB : B' ≤ B) (hw : B' ≤ w.heap.size) : Below B' w w' :=
  ⟨hT.os, hT.tape, hT.output, hT.size, fun k hk => by
    have hne : some k ≠ v.ownBlock := fun e => by have := (o.lt k e.symm).1; omega
    exact hT.block k (Nat.lt_of_lt_of_le hk hw) hne hne⟩

end Go.Proofs.YtokmiommhfbkeaaGreatDoor
