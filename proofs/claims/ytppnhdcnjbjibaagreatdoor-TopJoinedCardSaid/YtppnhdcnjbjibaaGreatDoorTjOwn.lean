/- TopJoined: a list of texts that is built; strings.Join; a result's text. -/
import Derived.Test.YtppnhdcnjbjibaaGreatDoorTjLines
import Derived.Test.YtppnhdcnjbjibaaGreatDoorTjFld
namespace Go.Proofs.YtppnhdcnjbjibaaGreatDoor
open Go.RowKit

abbrev strV (L : List ByteArray) : List Value := L.map Value.string
theorem strInfo : (Tryz.prog.info? 9).map (fun i => (i.zero, i.size, i.bytes)) = some (some (.string ByteArray.empty), 1, 16) := by kernel_rfl
/-- a list of texts that is built, above a base -/
def OwnL (base : Nat) (v : Value) (L : List ByteArray) (w : World) : Prop := w.ownsRow base 9 1 v L.length (strV L)
theorem OwnL.keep {base : Nat} {v : Value} {L : List ByteArray} {w w' : World} (h : OwnL base v L w) (hb : Below w.heap.size w w') : OwnL base v L w' :=
  World.ownsRow.kept (row := none) h ⟨hb.os, hb.tape, hb.output, hb.size, fun k hk _ => hb.block k hk⟩ (by cases v.ownBlock <;> simp)
theorem OwnL.sl {base : Nat} {v : Value} {L : List ByteArray} {w : World} (h : OwnL base v L w) : SL w v L := SL.of_own h
theorem OwnL.nil (base : Nat) (w : World) : OwnL base (.slice none 0 0) [] w := World.ownsRow_nil _ _ _ _
theorem OwnL.form {base : Nat} {v : Value} {L : List ByteArray} {w : World} (h : OwnL base v L w) : ∃ A c, v = .slice A L.length c := own_form h
/-- blocks of other types stay -/
def Others (w w' : World) : Prop := ∀ (b : Nat) (cs : Array Value) (T : TypeId) (fr : Nat × Nat), T ≠ 9 → w.heap[b]? = some (.cells cs T fr) → w'.heap[b]? = some (.cells cs T fr)
/-- a text is added to a list -/
theorem app_one {ops : Array Oper} {rest : List Oper} {o : Oper} {a : Act} {Q : Exit → Act → World → Prop} {w : World} (hgd : o.guard = none) (s x : Operand)
    (ho : o.op = .call { callee := .builtin .append, args := #[s, x], argTypes := #[26, 26] })
    (base : Nat) (v : Value) (L : List ByteArray) (hown : OwnL base v L w) (hs : a.eval s = v) (y : ByteArray) (hx : a.eval x = .slice (some ⟨w.heap.size, 0, none⟩) 1 1)
    (hL : L.length ≤ 20000) (hbase : base ≤ w.heap.size)
    (h : ∀ A c w', OwnL base (.slice A (L.length + 1) c) (L ++ [y]) w' → Below base w w' → Others w w' → wpList Tryz.prog ops Q rest (a.put o.dst (.slice A (L.length + 1) c)) w') : wpList Tryz.prog ops Q (o :: rest) a (w.alloc (.cells #[.string y] 9)) := by
  obtain ⟨i0, hi, hz0, hz1, hz2⟩ := info_parts strInfo
  have hO : (w.alloc (.cells #[.string y] 9)).ownsRow base 9 1 v L.length (strV L) := World.ownsRow.alloc hown _
  refine wpList_append_own _ hgd s x 26 ho base 9 i0 (.string ByteArray.empty) 1 16 Tryz.underlying26 hi hz0 hz1 hz2 rfl (by decide) v L.length (strV L) hs hO ⟨w.heap.size, 0, none⟩ 1 1 [.string y] hx rfl (new_row w [.string y] 9) (fun u hu => by simp at hu; subst hu; rfl) (by unfold maxLen; omega) (by omega) (by simp; omega) ?_
  intro v' w' h1 h2 _
  have h3 : OwnL base v' (L ++ [y]) w' := by
    unfold OwnL
    rw [List.length_append, strV, List.map_append]
    exact h1
  obtain ⟨A, c, rfl⟩ := h3.form
  have hl : (L ++ [y]).length = L.length + 1 := by simp
  rw [hl] at h3 ⊢
  refine h A c w' h3 (((Below.refl base w).alloc hbase _).grown h2 (by simp; omega) (fun g hg => (World.ownsRow.lt hO g hg).1)) (fun b cs T fr hT hb => ?_)
  have hlt : b < w.heap.size := (Array.getElem?_eq_some_iff.1 hb).1
  have hb2 : (w.alloc (.cells #[.string y] 9)).heap[b]? = some (.cells cs T fr) := (Below.heap_alloc _ _ _ hlt).trans hb
  exact (h2.block b (by simp; omega) (fun e => Lib.ownBlock_ne hO hb2 (fun e => hT e) e.symm)).trans hb2

theorem toBL (L : List ByteArray) : (L.map bl).map toB = L := by
  rw [List.map_map]
  exact List.map_id'' (fun s => toB_bl s) L
/-- texts are joined -/
theorem join_any (L : List ByteArray) (sep : ByteArray) (v : Value) (w : World) (hv : SL w v L) (hn : L.length ≤ 20000) (hl : (Lib.join (L.map bl) (bl sep)).length ≤ 10000000) :
    Calls Tryz.prog 20 #[v, .string sep] w fun e w' => e = .returned (.string (toB (Lib.join (L.map bl) (bl sep)))) ∧ Below w.heap.size w w' := by
  obtain ⟨A, c, rfl, hc, h⟩ := hv
  cases L with
  | nil =>
    refine (Tryz.strings_Join_none A c sep w).mono ?_
    rintro e w' ⟨rfl, rfl⟩
    exact ⟨rfl, Below.refl _ _⟩
  | cons y t =>
    obtain ⟨b, off, rfl, hb, hcell⟩ := h (by simp)
    exact Tryz.strings_Join b off c (y :: t) sep w (fun j x hj => by
      obtain ⟨h1, h2⟩ := List.getElem?_eq_some_iff.1 hj
      rw [← h2]
      exact hcell j h1) hb (by omega) hc (Nat.le_trans hl (by decide))

theorem BU.keep {w w' : World} {B b : Nat} {l : List UInt8} (h : BU w B b l) (hb : Below w.heap.size w w') : BU w' B b l := by
  have hk : ∀ p, Lib.BuilderAt 100 5 B b p (bytesV l) w → Lib.BuilderAt 100 5 B b p (bytesV l) w' := fun p hh => by
    obtain ⟨hB, v, hk, ho, hne⟩ := hh
    have hlt : b < w.heap.size := (Array.getElem?_eq_some_iff.1 hk).1
    exact ⟨hB, v, (hb.block b hlt).trans hk, ho.kept (row := none) ⟨hb.os, hb.tape, hb.output, hb.size, fun k hk _ => hb.block k hk⟩ (by cases v.ownBlock <;> simp), hne⟩
  rcases h with h | h
  · exact .inl (hk _ h)
  · exact .inr (hk _ h)
theorem BU.new (w : World) : BU (w.alloc (.cells #[.pointer none, .slice none 0 0] 100)) w.heap.size w.heap.size [] :=
  .inl ⟨Nat.le_refl _, .slice none 0 0, heap_alloc_new w _, World.ownsRow_nil _ _ _ _, by simp [Value.ownBlock]⟩
theorem take_snoc (L : List ByteArray) (k : Nat) (h : k < L.length) : L.take (k + 1) = L.take k ++ [L[k]] := by rw [List.take_succ_eq_append_getElem h]

set_option maxRecDepth 100000 in
set_option maxHeartbeats 3200000 in
/-- the text of a result -/
theorem result_any (L : List ByteArray) (v : Value) (w : World) (hv : SL w v L) (hn : L.length ≤ 20000) (hl : ∀ x ∈ L, x.size ≤ 1000) :
    Calls Tryz.prog 21 #[v] w fun e w' => e = .returned (.string (toB (txtL (L.map bl)))) ∧ Below w.heap.size w w' := by
  obtain ⟨A, c, rfl, hc, h⟩ := hv
  have HH := Lib.hid h
  obtain ⟨x, hx⟩ : ∃ x, x = w.heap.size := ⟨_, rfl⟩
  obtain ⟨W0, hW0⟩ : ∃ W0, W0 = w.alloc (.cells #[.pointer none, .slice none 0 0] 100) := ⟨_, rfl⟩
  have HB0 : Hid (Below x w W0) := Lib.hid (by rw [hW0, hx]; exact (Below.refl _ w).alloc (Nat.le_refl _) _)
  have HU0 : Hid (BU W0 x x []) := Lib.hid (by rw [hW0, hx]; exact BU.new w)
  have HWE := Lib.hid hW0
  have HXE := Lib.hid hx
  clear h hW0 hx
  go_enter Tryz.func21, Tryz.ntmps21
  go_upto_region 2 with fail
  rw [← HXE.out, ← HWE.out]
  go_wp2_with fail
  go_loopw [8] (fun s8 wr => ∃ k : Nat, k ≤ L.length ∧ s8 = .int .i64 (k : Int) ∧ Hid (BU wr x x (txtL ((L.take k).map bl))) ∧ Hid (Below x w wr)) (fun s8 _ => L.length - (intOf s8).toNat)
  case atStart => exact ⟨0, Nat.zero_le _, rfl, Lib.hid (by simpa [txtL] using HU0.out), HB0⟩
  case round =>
    obtain ⟨k, hk, rfl, HU, HB⟩ := hrel
    by_cases hlt : k < L.length
    · have hltz : (k : Int) < (L.length : Int) := by omega
      have hk1 : IntKind.i64.wrap ((k : Int) + 1) = ((k + 1 : Nat) : Int) := IntWalk.i64_in _ (by omega)
      obtain ⟨b, off, rfl, hb, hcell⟩ := HH.out (by omega)
      have hc1 : wr.cell? ⟨b, off + k, none⟩ = some (.string L[k]) := (HB.out.cell (p := ⟨b, off + k, none⟩) (by rw [HXE.out]; exact hb)).trans (hcell k hlt)
      have hsz := hl L[k] (List.getElem_mem hlt)
      have HNX : Hid (txtL ((L.take (k + 1)).map bl) = txtL ((L.take k).map bl) ++ (bl L[k] ++ [10])) := Lib.hid (by rw [take_snoc L k hlt, List.map_append]; exact txtL_snoc _ _)
      have htl : (txtL ((L.take k).map bl)).length ≤ 20000 * 1001 := by
        refine Nat.le_trans (txtL_len _ 1000 (fun y hy => ?_)) (Nat.mul_le_mul (by rw [List.length_map, List.length_take]; omega) (Nat.le_refl _))
        obtain ⟨z, hz, rfl⟩ := List.mem_map.1 hy
        rw [bl_size]
        exact hl z (List.mem_of_mem_take hz)
      have hss := bl_size L[k]
      have hap : L[k] ++ (⟨#[10]⟩ : ByteArray) = toB (bl L[k] ++ [10]) := by rw [← toB_append, toB_bl]; rfl
      obtain ⟨y, hy⟩ : ∃ y, y = L[k] := ⟨_, rfl⟩
      obtain ⟨T, hT⟩ : ∃ T, T = txtL ((L.take k).map bl) := ⟨_, rfl⟩
      rw [← hy] at hc1 HNX hsz hss hap
      rw [← hT] at HU HNX htl
      have HWS := Lib.hid (ws_any x x T (bl y ++ [10]) wr HU.out (by rw [List.length_append, hss]; simp; omega) (by rw [HXE.out]; exact HB.out.size))
      clear hcell hT htl hl hn hc
      rw [← hap] at HWS
      have hsum : ¬ 9223372036854775807 < y.size + 1 := by omega
      clear hap hy
      go_wp2_with fail
      refine HWS.out.mono ?_
      rintro e w1 ⟨rfl, hu1, hb1⟩
      have HU1 := Lib.hid hu1
      have HB1 := Lib.hid hb1
      clear hu1 hb1
      go_wp2_with fail
      exact ⟨⟨k + 1, by omega, by simp, Lib.hid (by rw [HNX.out]; exact HU1.out), Lib.hid (HB.out.trans HB1.out)⟩, by simp [intOf]; omega⟩
    · obtain rfl : k = L.length := by omega
      have HST := Lib.hid (Tryz.Builder_String_any x x (txtL ((L.take L.length).map bl)) wr HU.out (by rw [HXE.out]; exact HB.out.size))
      rw [List.take_length] at HST
      obtain ⟨T, hT⟩ : ∃ T, T = txtL (L.map bl) := ⟨_, rfl⟩
      rw [← hT] at HST
      have HT := Lib.hid hT
      clear hT
      go_wp2_with fail
      refine HST.out.mono ?_
      rintro e w1 ⟨rfl, hb1⟩
      go_wp2_with fail
      go_ret
      exact ⟨by rw [← HT.out]; rfl, by rw [← HXE.out]; exact HB.out.trans hb1⟩
end Go.Proofs.YtppnhdcnjbjibaaGreatDoor
