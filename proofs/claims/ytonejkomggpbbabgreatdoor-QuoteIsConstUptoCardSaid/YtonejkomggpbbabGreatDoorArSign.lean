/- Arithmetic expressions: the program's reader: sign. (Begun; see NOTES.md.) -/
import Derived.Test.YtonejkomggpbbabGreatDoorArRead
import Derived.Laws.OwnMore
import Derived.Deep.AppendLies
namespace Go.Proofs.YtonejkomggpbbabGreatDoor
open Go.RowKit Go.Shelf
attribute [local go_sem] Oper.semAt_some

theorem gap_blank {l r : List UInt8} {c : UInt8} (h : skipJ l = c :: r) (hc : blB c = true) : gap l = gap r := by
  rw [← gap_skipJ l, h]
  cases r with
  | nil => simp [gap, hc]
  | cons a t => simp [gap, hc]
theorem gap_stop {l r : List UInt8} {c : UInt8} (h : skipJ l = c :: r) (hc : blB c = false) : gap l = c :: r := by
  have h2 := skipJ_skipJ l
  rw [h] at h2
  rw [← gap_skipJ l, h]
  cases r with
  | nil => simp [gap, hc]
  | cons a t =>
    have hn : ¬ (c = 92 ∧ a = 10) := fun e => by
      have e2 : skipJ (c :: a :: t) = skipJ t := by
        rw [show skipJ (c :: a :: t) = if c = 92 ∧ a = 10 then skipJ t else c :: a :: t from rfl, if_pos e]
      have := skipJ_len t
      rw [e2] at h2
      rw [h2] at this
      simp at this
      omega
    rw [show gap (c :: a :: t) = if blB c = true then gap (a :: t) else if c = 92 ∧ a = 10 then gap t else c :: a :: t from rfl, if_neg (by simp [hc]), if_neg hn]
theorem gap_end {l : List UInt8} (h : skipJ l = []) : gap l = [] := by rw [← gap_skipJ l, h]; rfl
theorem Rd.only {w w' : World} {b x : Nat} {T l : List UInt8} (h : Rd w b T l) (ho : Only x w w') (hx : b ≠ x) : Rd w' b T l := by
  obtain ⟨p, lf, h1, h2, h3, h4⟩ := h.box
  exact ⟨⟨p, lf, h1, h2, h3, (ho.block b h.lt hx).trans h4⟩, h.suf, h.len⟩
/-- a new block may be changed -/
theorem Only.new {b x : Nat} {w a w' : World} (h : Only b w a) (ho : Only x a w') (hx : w.heap.size ≤ x) : Only b w w' :=
  ⟨ho.os.trans h.os, ho.tape.trans h.tape, ho.output.trans h.output, Nat.le_trans h.size ho.size, fun k hk hb => (ho.block k (Nat.lt_of_lt_of_le hk h.size) (by omega)).trans (h.block k hk hb)⟩
/-- a block that holds one cell -/
def One (w : World) (x : Nat) (t : TypeId) (v : Value) : Prop := w.heap[x]? = some (.cells #[v] t (0, 0))
theorem One.lt {w : World} {x : Nat} {t : TypeId} {v : Value} (h : One w x t v) : x < w.heap.size := (Array.getElem?_eq_some_iff.1 h).1
theorem One.only {w w' : World} {x y : Nat} {t : TypeId} {v : Value} (h : One w x t v) (ho : Only y w w') (hx : x ≠ y) : One w' x t v := (ho.block x h.lt hx).trans h
theorem One.cell {w : World} {x : Nat} {t : TypeId} {v : Value} (h : One w x t v) : w.cell? ⟨x, 0, none⟩ = some v := by
  unfold One at h
  simp [World.cell?, h]
theorem One.fz {w : World} {x : Nat} {t : TypeId} {v : Value} (h : One w x t v) : w.frozen? ⟨x, 0, none⟩ = false := by
  unfold One at h
  simp [World.frozen?, h]
theorem One.set {w : World} {x : Nat} {t : TypeId} {v : Value} (h : One w x t v) (u : Value) : One (w.setCell ⟨x, 0, none⟩ u) x t u := by
  unfold One at h ⊢
  rw [heap_setCell_same _ _ _ _ _ _ h]
  rfl
theorem One.new (w : World) (t : TypeId) (v : Value) : One (w.alloc (.cells #[v] t)) w.heap.size t v := heap_alloc_new w _

set_option maxHeartbeats 800000 in
theorem splitSeq_any (s sep : ByteArray) (w : World) : Calls Tryz.prog 139 #[.string s, .string sep] w fun e w' =>
    e = .returned (.func (.func 176) #[] #[.pointer (some ⟨w.heap.size + 1, 0, none⟩), .pointer (some ⟨w.heap.size, 0, none⟩), .pointer (some ⟨w.heap.size + 2, 0, none⟩)]) ∧
    w' = ((w.alloc (.cells #[.string s] 9)).alloc (.cells #[.string sep] 9)).alloc (.cells #[.int .i64 0] 3) := by
  have hmf : ∀ (fn : Fn) (first cap : Array Value) (w : World), (Instr.makeFunc fn first cap).run Tryz.prog w = .ok (.func fn first cap) w := fun _ _ _ _ => rfl
  go_enter Tryz.func139, Tryz.ntmps139
  go_wp2
  go_ret
  exact ⟨rfl, rfl⟩

def SignGives (b : Nat) (T l : List UInt8) (w : World) (e : Ending) (w' : World) : Prop := e = .returned (.string (toB (sg l))) ∧ Rd w' b T (gap l) ∧ Only b w w'
/-- where sign's walk stands: the reader, its own two boxes -/
structure SG (w : World) (b b1 b2 : Nat) (T l : List UInt8) (v : ByteArray) (W : World) : Prop where
  rd : Rd W b T l
  only : Only b w W
  o1 : One W b1 50 (.pointer (some ⟨b, 0, none⟩))
  o2 : One W b2 9 (.string v)
  ne : w.heap.size ≤ b1 ∧ b1 < b2 ∧ b < w.heap.size
theorem SG.step {w W W' : World} {b b1 b2 : Nat} {T l l' : List UInt8} {v : ByteArray} (h : SG w b b1 b2 T l v W) (hr : Rd W' b T l') (ho : Only b W W') : SG w b b1 b2 T l' v W' :=
  ⟨hr, h.only.trans ho, h.o1.only ho (by have := h.ne; omega), h.o2.only ho (by have := h.ne; omega), h.ne⟩
/-- another block of its own is changed -/
theorem SG.other {w W W' : World} {b b1 b2 x : Nat} {T l : List UInt8} {v : ByteArray} (h : SG w b b1 b2 T l v W) (ho : Only x W W') (hx : b2 < x) : SG w b b1 b2 T l v W' :=
  ⟨h.rd.only ho (by have := h.ne; omega), h.only.new ho (by have := h.ne; omega), h.o1.only ho (by have := h.ne; omega), h.o2.only ho (by omega), h.ne⟩
theorem SG.setR {w W : World} {b b1 b2 : Nat} {T l : List UInt8} {v : ByteArray} (h : SG w b b1 b2 T l v W) (u : ByteArray) : SG w b b1 b2 T l u (W.setCell ⟨b2, 0, none⟩ (.string u)) :=
  ⟨h.rd.only ((Only.refl b2 W).setCell _) (by have := h.ne; omega), h.only.new ((Only.refl b2 W).setCell _) (by have := h.ne; omega), h.o1.only ((Only.refl b2 W).setCell _) (by have := h.ne; omega), h.o2.set _, h.ne⟩

theorem Bxs.only {W W' : World} {B1 B2 B3 x : Nat} {s : List UInt8} (h : Bxs W B1 B2 B3 s) (ho : Only x W W') (h1 : B1 < W.heap.size ∧ B2 < W.heap.size ∧ B3 < W.heap.size) (hx : x ≠ B1 ∧ x ≠ B2 ∧ x ≠ B3) : Bxs W' B1 B2 B3 s := by
  have e := fun k (hk : k < W.heap.size) (hx : x ≠ k) => ho.block k hk (fun e => hx e.symm)
  exact ⟨(World.cell?_of_block (a := ⟨B1, 0, none⟩) (e _ h1.1 hx.1)).trans h.sep, (World.cell?_of_block (a := ⟨B2, 0, none⟩) (e _ h1.2.1 hx.2.1)).trans h.str, (World.cell?_of_block (a := ⟨B3, 0, none⟩) (e _ h1.2.2 hx.2.2)).trans h.save,
    (show W'.frozen? ⟨B2, 0, none⟩ = W.frozen? ⟨B2, 0, none⟩ by simp [World.frozen?, e B2 h1.2.1 hx.2.1]).trans h.fz⟩
theorem KeepF.only {B x : Nat} {W W' : World} (ho : Only x W W') (hx : x < B) : KeepF B W W' := ⟨ho.size, fun k hk h => ho.block k h (by omega)⟩
theorem KeepF.trans {B : Nat} {W a W' : World} (h : KeepF B W a) (k : KeepF B a W') : KeepF B W W' := ⟨Nat.le_trans h.1 k.1, fun j hj hz => (k.2 j hj (Nat.lt_of_lt_of_le hz h.1)).trans (h.2 j hj hz)⟩
theorem Bxs.lts {W : World} {B1 B2 B3 : Nat} {s : List UInt8} (h : Bxs W B1 B2 B3 s) : B1 < W.heap.size ∧ B2 < W.heap.size ∧ B3 < W.heap.size :=
  ⟨World.block_lt_of_cell? W _ h.sep, World.block_lt_of_cell? W _ h.str, World.block_lt_of_cell? W _ h.save⟩
theorem find_no {t : List UInt8} {r : List (List UInt8)} {P : List UInt8 → Bool} (h : P t = false) : (t :: r).find? P = r.find? P := by simp [h]
theorem find_yes {t : List UInt8} {r : List (List UInt8)} {P : List UInt8 → Bool} (h : P t = true) : (t :: r).find? P = some t := by simp [h]
theorem SG.gives {w W : World} {b b1 b2 : Nat} {T l : List UInt8} {s : List UInt8} (h : SG w b b1 b2 T (gap l) (toB s) W) (hs : sg l = s) : SignGives b T l w (.returned (.string (toB s))) W := ⟨by rw [hs], h.rd, h.only⟩
theorem signs_fine : ∀ t ∈ signs, (32 : UInt8) ∉ t ∧ t.length ≤ 100 := by decide +kernel
theorem SG.lt {w W : World} {b b1 b2 : Nat} {T l : List UInt8} {v : ByteArray} (h : SG w b b1 b2 T l v W) : b2 < W.heap.size := h.o2.lt
/-- the three boxes that the parts are read from are laid -/
theorem SG.boxes {w W W' : World} {b b1 b2 : Nat} {T l : List UInt8} {v lit : ByteArray} (h : SG w b b1 b2 T l v W) (hlit : lit = toB (joinS signs))
    (hW : W' = ((W.alloc (.cells #[.string lit] 9)).alloc (.cells #[.string ⟨#[32]⟩] 9)).alloc (.cells #[.int .i64 0] 3)) :
    SG w b b1 b2 T l v W' ∧ Bxs W' (W.heap.size + 1) W.heap.size (W.heap.size + 2) (joinS signs) ∧ W'.heap.size = W.heap.size + 3 := by
  subst hlit
  have k1 := (Below.refl W.heap.size W).alloc (Nat.le_refl _) (.cells #[.string (toB (joinS signs))] 9)
  have n1 := One.new W 9 (.string (toB (joinS signs)))
  have s1 : (W.alloc (.cells #[.string (toB (joinS signs))] 9)).heap.size = W.heap.size + 1 := by simp
  have k2 := (Below.refl _ (W.alloc (.cells #[.string (toB (joinS signs))] 9))).alloc (Nat.le_refl _) (.cells #[.string ⟨#[32]⟩] 9)
  have n2 := One.new (W.alloc (.cells #[.string (toB (joinS signs))] 9)) 9 (.string ⟨#[32]⟩)
  rw [s1] at n2
  have s2 : ((W.alloc (.cells #[.string (toB (joinS signs))] 9)).alloc (.cells #[.string ⟨#[32]⟩] 9)).heap.size = W.heap.size + 2 := by simp
  have k3 := (Below.refl _ ((W.alloc (.cells #[.string (toB (joinS signs))] 9)).alloc (.cells #[.string ⟨#[32]⟩] 9))).alloc (Nat.le_refl _) (.cells #[.int .i64 0] 3)
  have n3 := One.new ((W.alloc (.cells #[.string (toB (joinS signs))] 9)).alloc (.cells #[.string ⟨#[32]⟩] 9)) 3 (.int .i64 0)
  rw [s2] at n3
  rw [← hW] at n3 k3
  have hs : W'.heap.size = W.heap.size + 3 := by rw [hW]; simp
  generalize (W.alloc (.cells #[.string (toB (joinS signs))] 9)).alloc (.cells #[.string ⟨#[32]⟩] 9) = W2 at *
  generalize W.alloc (.cells #[.string (toB (joinS signs))] 9) = W1 at *
  have b13 : Below W.heap.size W W' := k1.trans ((k2.trans (k3.mono k2.size)).mono k1.size)
  have o2 : Only (W.heap.size + 2) W1 W2 := Only.of k2 (Nat.le_refl _)
  have o3 : Only (W.heap.size + 3) W2 W' := Only.of k3 (Nat.le_refl _)
  have m1 : One W' W.heap.size 9 (.string (toB (joinS signs))) := (n1.only o2 (by omega)).only o3 (by omega)
  have m2 : One W' (W.heap.size + 1) 9 (.string ⟨#[32]⟩) := n2.only o3 (by omega)
  exact ⟨h.step (h.rd.keep b13) (Only.of b13 (Nat.le_refl _)), ⟨m2.cell, m1.cell, n3.cell, m1.fz⟩, hs⟩
set_option maxRecDepth 100000 in
set_option maxHeartbeats 3200000 in
theorem sign_any (b : Nat) (T l : List UInt8) (w : World) (h : Rd w b T l) :
    Calls Tryz.prog 103 #[.pointer (some ⟨b, 0, none⟩)] w (SignGives b T l w) := by
  have hlt := h.lt
  have HS0 : Hid (SG w b w.heap.size (w.heap.size + 1) T l ⟨#[]⟩ ((w.alloc (.cells #[.pointer (some ⟨b, 0, none⟩)] 50)).alloc (.cells #[.string ⟨#[]⟩] 9))) := Lib.hid (by
    have b1 := (Below.refl w.heap.size w).alloc (Nat.le_refl _) (.cells #[.pointer (some ⟨b, 0, none⟩)] 50)
    have s1 : (w.alloc (.cells #[.pointer (some ⟨b, 0, none⟩)] 50)).heap.size = w.heap.size + 1 := by simp
    have b2 := (Below.refl _ (w.alloc (.cells #[.pointer (some ⟨b, 0, none⟩)] 50))).alloc (Nat.le_refl _) (.cells #[.string ⟨#[]⟩] 9)
    have b12 := b1.trans (b2.mono b1.size)
    refine ⟨h.keep b12, Only.of b12 (Nat.le_refl _), (b2.block _ (by omega)).trans (heap_alloc_new w _), ?_, ⟨Nat.le_refl _, by omega, hlt⟩⟩
    have := heap_alloc_new (w.alloc (.cells #[.pointer (some ⟨b, 0, none⟩)] 50)) (.cells #[.string ⟨#[]⟩] 9)
    rw [s1] at this
    exact this)
  have HPk := Lib.hid (fun l' W hW => peek_any b T l' W hW)
  have HHs := Lib.hid (fun l' s W hW hs => has_any b T l' s W hW hs)
  obtain ⟨Q, hQ⟩ : ∃ Q, SignGives b T l w = Q := ⟨_, rfl⟩
  rw [hQ]
  have HQ := Lib.hid hQ
  clear hQ h hlt
  refine (callsIn_wide (n := 5)).1 ?_
  refine callsIn_of_wp_marks Tryz.func103 rfl trivial ?_ rfl
  simp only [Tryz.ntmps103, List.size_toArray, List.length_cons, List.length_nil, Nat.reduceAdd, Nat.reduceSub, Array.replicate_succ, Array.replicate_zero, List.push_toArray, List.append_toArray, List.nil_append, List.cons_append]
  gi_wp2
  obtain ⟨b1, hb1⟩ : ∃ b1, w.heap.size = b1 := ⟨_, rfl⟩
  rw [hb1] at HS0
  simp only [hb1]
  clear hb1
  generalize (w.alloc (.cells #[.pointer (some ⟨b, 0, none⟩)] 50)).alloc (.cells #[.string ⟨#[]⟩] 9) = w1 at *
  gi_loopw [] (fun wr => ∃ l', Hid (SG w b b1 (b1 + 1) T l' ⟨#[]⟩ wr) ∧ Hid (gap l' = gap l)) (fun wr => T.length - posOf wr b)
  case atStart => exact ⟨l, HS0, Lib.hid rfl⟩
  case round =>
    clear HS0
    obtain ⟨l', HS, HG⟩ := hrel
    have c1 := HS.out.o1.cell
    by_cases hmore : ∃ c r, skipJ l' = c :: r ∧ blB c = true
    · obtain ⟨c, r, hs, hbl⟩ := hmore
      have hsk := Lib.hid (show skipJ (c :: r) = c :: r by rw [← hs]; exact skipJ_skipJ l')
      have HL := Lib.hid hs
      have HGr := Lib.hid ((gap_blank hs hbl).symm.trans HG.out)
      have hc := c.toNat_lt
      have hne : ((c.toNat : Int) != -1) = true := by simp
      have hcc : c = 32 ∨ c = 9 ∨ c = 10 := by simpa [blB, or_assoc] using hbl
      have HPos := Lib.hid HS.out.rd.pos
      have hlen := Lib.hid (show r.length + 1 ≤ l'.length by have := skipJ_len l'; rw [hs] at this; simpa using this)
      clear hs hbl
      have hh := Lib.hid (show headI (c :: r) = (c.toNat : Int) from rfl)
      by_cases h10 : c = 10
      · have hB := Lib.hid (show isBB (c.toNat : Int) = false by rw [h10]; rfl)
        have he10 : ((c.toNat : Int) == 10) = true := by rw [h10]; rfl
        clear hcc h10
        gi_wp2_with fail
        refine ⟨trivial, ?_⟩
        refine (callsIn_wide.2 (HPk.out l' _ HS.out.rd)).mono ?_
        rintro e w2 ⟨rfl, hr2, ho2⟩
        rw [HL.out] at hr2
        rw [HL.out, hh.out]
        have HS2 := Lib.hid (HS.out.step hr2 ho2)
        clear hr2 ho2 c1
        have c2 := HS2.out.o1.cell
        gi_wp2_with fail
        refine ⟨trivial, ?_⟩
        refine (callsIn_wide.2 (HPk.out (c :: r) _ HS2.out.rd)).mono ?_
        rintro e w3 ⟨rfl, hr3, ho3⟩
        rw [hsk.out] at hr3
        rw [hsk.out, hh.out]
        have HS3 := Lib.hid (HS2.out.step hr3 ho3)
        clear hr3 ho3 c2
        have c3 := HS3.out.o1.cell
        gi_wp2_with fail
        refine ⟨trivial, ?_⟩
        refine (callsIn_wide.2 (isBlank_any _ _)).mono ?_
        rintro e w4 ⟨rfl, rfl⟩
        rw [hB.out]
        gi_wp2_with fail
        refine ⟨trivial, ?_⟩
        refine (callsIn_wide.2 (HPk.out (c :: r) _ HS3.out.rd)).mono ?_
        rintro e w5 ⟨rfl, hr5, ho5⟩
        rw [hsk.out] at hr5
        rw [hsk.out, hh.out]
        have HS5 := Lib.hid (HS3.out.step hr5 ho5)
        clear hr5 ho5 c3
        have c5 := HS5.out.o1.cell
        obtain ⟨p, lf, hp, hlf1, hlf2, hd, k0, k1, k2, k4, kf, kbx⟩ := HS5.out.rd.cells
        have hcl : (c :: r).length = r.length + 1 := rfl
        rw [hcl] at hp
        have hT := HS5.out.rd.len
        have HF := Lib.hid ((HS5.out.step (HS5.out.rd.store (q := p + 1) (l' := r) (by omega) (by rw [← List.drop_drop, hd]; rfl)) ((Only.refl b _).setCell _)))
        clear k0 k2 k4 kbx hd hcl
        gi_wp2_with fail
        refine ⟨⟨r, HF, HGr⟩, ?_⟩
        have h1 : posOf (World.setCell _ ⟨b, 1, none⟩ (.int .i64 ((p : Int) + 1))) b + r.length = T.length := HF.out.rd.pos
        have h2 := HPos.out
        have h3 := hlen.out
        show T.length - posOf _ b < _
        omega
      · have hB := Lib.hid (show isBB (c.toNat : Int) = true by rcases hcc with e | e | e <;> first | (rw [e]; rfl) | exact absurd e h10)
        clear hcc h10
        gi_wp2_with fail
        refine ⟨trivial, ?_⟩
        refine (callsIn_wide.2 (HPk.out l' _ HS.out.rd)).mono ?_
        rintro e w2 ⟨rfl, hr2, ho2⟩
        rw [HL.out] at hr2
        rw [HL.out, hh.out]
        have HS2 := Lib.hid (HS.out.step hr2 ho2)
        clear hr2 ho2 c1
        have c2 := HS2.out.o1.cell
        gi_wp2_with fail
        refine ⟨trivial, ?_⟩
        refine (callsIn_wide.2 (HPk.out (c :: r) _ HS2.out.rd)).mono ?_
        rintro e w3 ⟨rfl, hr3, ho3⟩
        rw [hsk.out] at hr3
        rw [hsk.out, hh.out]
        have HS3 := Lib.hid (HS2.out.step hr3 ho3)
        clear hr3 ho3 c2
        have c3 := HS3.out.o1.cell
        gi_wp2_with fail
        refine ⟨trivial, ?_⟩
        refine (callsIn_wide.2 (isBlank_any _ _)).mono ?_
        rintro e w4 ⟨rfl, rfl⟩
        rw [hB.out]
        obtain ⟨p, lf, hp, hlf1, hlf2, hd, k0, k1, k2, k4, kf, kbx⟩ := HS3.out.rd.cells
        have hcl : (c :: r).length = r.length + 1 := rfl
        rw [hcl] at hp
        have hT := HS3.out.rd.len
        have HF := Lib.hid ((HS3.out.step (HS3.out.rd.store (q := p + 1) (l' := r) (by omega) (by rw [← List.drop_drop, hd]; rfl)) ((Only.refl b _).setCell _)))
        clear k0 k2 k4 kbx hd hcl
        gi_wp2_with fail
        refine ⟨trivial, ?_⟩
        gi_wp2_with fail
        refine ⟨⟨r, HF, HGr⟩, ?_⟩
        have h1 : posOf (World.setCell _ ⟨b, 1, none⟩ (.int .i64 ((p : Int) + 1))) b + r.length = T.length := HF.out.rd.pos
        have h2 := HPos.out
        have h3 := hlen.out
        show T.length - posOf _ b < _
        omega
    · have HPos := Lib.hid HS.out.rd.pos
      cases hs : skipJ l' with
      | nil =>
        have HL := Lib.hid hs
        have HGe := Lib.hid ((gap_end hs).symm.trans HG.out)
        have hh := Lib.hid (show headI [] = -1 from rfl)
        clear hs hmore HG
        gi_wp2_with fail
        refine ⟨trivial, ?_⟩
        refine (callsIn_wide.2 (HPk.out l' _ HS.out.rd)).mono ?_
        rintro e w2 ⟨rfl, hr2, ho2⟩
        rw [HL.out] at hr2
        rw [HL.out, hh.out]
        have HS2 := Lib.hid (HS.out.step hr2 ho2)
        clear hr2 ho2 c1
        have c2 := HS2.out.o1.cell
        have HSx : Hid (SG w b b1 (b1 + 1) T (gap l) ⟨#[]⟩ w2) := Lib.hid (by rw [← HGe.out]; exact HS2.out)
        clear HS2
        gi_wp2_with fail
        refine ⟨trivial, ?_⟩
        gi_wp2_with fail
        refine ⟨trivial, ?_⟩
        gi_wp2_with fail
        · rename_i h1 _
          cases h1
        refine ⟨trivial, ?_⟩
        gi_wp2_with fail
        all_goals try (exfalso; rename_i h1 _; cases h1; done)
        refine ⟨trivial, ?_⟩
        gi_wp2_with fail
        all_goals try (exfalso; rename_i h1 _; cases h1; done)
        refine ⟨trivial, ?_⟩
        refine (callsIn_wide.2 (splitSeq_any _ _ _)).mono ?_
        rintro e w7 ⟨rfl, hw7⟩
        obtain ⟨h1, h2, h3⟩ := HSx.out.boxes (by rfl) hw7
        have HS7 := Lib.hid h1
        have HB7 := Lib.hid h2
        have hsz7 := h3
        have hb2 := HSx.out.lt
        clear h1 h2 h3 hw7 HSx
        gi_wp2_with fail
        refine wpIn_parts (m := 3) rfl (by omega) (by omega) (by omega) (fun ts W => SG w b b1 (b1 + 1) T (gap l) ⟨#[]⟩ W ∧ (signs.find? fun s => (takeS s (gap l)).isSome) = ts.find? fun s => (takeS s (gap l)).isSome)
          (fun W => ∃ s, (signs.find? fun s => (takeS s (gap l)).isSome) = some s ∧ SG w b b1 (b1 + 1) T (gap l) (toB s) W)
          (fun ts x W W' h ho hx => ⟨h.1.other ho (by omega), h.2⟩) (fun ts W v h => ⟨h.1.other ((Only.refl _ W).setCell v) (by omega), h.2⟩) (fun x W W' h ho hx => by
            obtain ⟨s, hs, h⟩ := h
            exact ⟨s, hs, h.other ho (by omega)⟩) (fun t => t ∈ signs) signs_fine signs (by decide) (fun t h => h) (by decide) ⟨HS7.out, rfl⟩ HB7.out ?act ?assign ?body ?done ?stop
        case assign =>
          intro lr t W K hK
          gi_wp2
          exact hK
        case body =>
          rintro lr t r W hNt ⟨hSG, hfd⟩ hbx
          have HSG := Lib.hid hSG
          have HFD := Lib.hid hfd
          have HBX := Lib.hid hbx
          have hbw := HSG.out.ne
          have c1 := hSG.o1.cell
          have HP2 := Lib.hid (signs_fine t hNt).2
          clear hSG hfd hbx
          cases hP : (takeS t (gap l)).isSome with
          | false =>
            have HP := Lib.hid hP
            clear hP
            gi_wp2_with fail
            refine ⟨trivial, ?_⟩
            refine (CallsIn.inRound lr (callsIn_wide.2 (HHs.out (gap l) t _ HSG.out.rd HP2.out))).mono ?_
            rintro e w9 ⟨rfl, hr9, ho9⟩
            rw [HP.out]
            have HS9 := Lib.hid (HSG.out.step hr9 ho9)
            have HO9 := Lib.hid ho9
            clear hr9 ho9 c1
            gi_wp2_with fail
            exact ⟨⟨HS9.out, HFD.out.trans (find_no HP.out)⟩, HBX.out.only HO9.out HBX.out.lts (by omega), KeepF.only HO9.out (by omega)⟩
          | true =>
            have HP := Lib.hid hP
            clear hP
            gi_wp2_with fail
            refine ⟨trivial, ?_⟩
            refine (CallsIn.inRound lr (callsIn_wide.2 (HHs.out (gap l) t _ HSG.out.rd HP2.out))).mono ?_
            rintro e w9 ⟨rfl, hr9, ho9⟩
            rw [HP.out]
            have HS9 := Lib.hid (HSG.out.step hr9 ho9)
            have HO9 := Lib.hid ho9
            clear hr9 ho9 c1
            have c2 := HS9.out.o2.cell
            have f2 := HS9.out.o2.fz
            gi_wp2_with fail
            exact ⟨⟨t, HFD.out.trans (find_yes HP.out), HS9.out.setR _⟩, (KeepF.only HO9.out (by omega)).trans (KeepF.only ((Only.refl (b1 + 1) _).setCell _) (by omega))⟩
        case done =>
          rintro W ⟨hSG, hfd⟩ hK
          have HSG := Lib.hid hSG
          have HFD := Lib.hid hfd
          have c2 := hSG.o2.cell
          have f2 := hSG.o2.fz
          clear hSG hfd
          gi_wp2_with fail
          have hK2 : (W.setCell ⟨b1 + 1, 0, none⟩ (.string ⟨#[]⟩)).heap[w7.heap.size]? = some (.deferred (some [])) := (heap_setCell_other W ⟨b1 + 1, 0, none⟩ _ _ (fun e => by have : w7.heap.size = b1 + 1 := e; omega)).trans hK
          have HS3 := Lib.hid ((HSG.out.setR ⟨#[]⟩).other (only_put _ w7.heap.size (.deferred none)) (by have := HSG.out.ne; omega))
          have c3 := HS3.out.o2.cell
          refine ⟨by simp, .inl ⟨_, _, rfl, run_takeDeferred hK2, ?_⟩⟩
          have hsg : sg l = [] := by unfold sg; rw [HFD.out]; rfl
          refine ⟨.string ⟨#[]⟩, by simp [results, Tryz.results103, go_sem, c3], ?_⟩
          rw [← HQ.out]
          exact HS3.out.gives hsg
        case stop =>
          rintro W ⟨s, hs, hSG⟩ hK
          have HSG := Lib.hid hSG
          have HFD := Lib.hid hs
          clear hSG hs
          gi_wp2_with fail
          have HS3 := Lib.hid (HSG.out.other (only_put _ w7.heap.size (.deferred none)) (by have := HSG.out.ne; omega))
          have c3 := HS3.out.o2.cell
          refine ⟨by simp, .inl ⟨_, _, rfl, run_takeDeferred hK, ?_⟩⟩
          have hsg : sg l = s := by unfold sg; rw [HFD.out]; rfl
          refine ⟨.string (toB s), by simp [results, Tryz.results103, go_sem, c3], ?_⟩
          rw [← HQ.out]
          exact HS3.out.gives hsg
      | cons c r =>
        have hbl : blB c = false := by
          cases h : blB c with
          | false => rfl
          | true => exact absurd ⟨c, r, hs, h⟩ hmore
        have hsk := Lib.hid (show skipJ (c :: r) = c :: r by rw [← hs]; exact skipJ_skipJ l')
        have HL := Lib.hid hs
        have HGe := Lib.hid ((gap_stop hs hbl).symm.trans HG.out)
        have hc := c.toNat_lt
        have hne : ((c.toNat : Int) != -1) = true := by simp
        have hcc : c ≠ 32 ∧ c ≠ 9 ∧ c ≠ 10 := by simpa [blB, and_assoc] using hbl
        have he10 : ((c.toNat : Int) == 10) = false := by
          rw [beq_eq_false_iff_ne]
          exact fun e => hcc.2.2 (UInt8.toNat_inj.1 (show c.toNat = 10 by omega))
        have hB := Lib.hid (show isBB (c.toNat : Int) = false by
          unfold isBB
          rw [decide_eq_false_iff_not]
          rintro (e | e)
          · exact hcc.1 (UInt8.toNat_inj.1 (show c.toNat = 32 by omega))
          · exact hcc.2.1 (UInt8.toNat_inj.1 (show c.toNat = 9 by omega)))
        have hh := Lib.hid (show headI (c :: r) = (c.toNat : Int) from rfl)
        clear hs hbl hmore hcc HG
        gi_wp2_with fail
        refine ⟨trivial, ?_⟩
        refine (callsIn_wide.2 (HPk.out l' _ HS.out.rd)).mono ?_
        rintro e w2 ⟨rfl, hr2, ho2⟩
        rw [HL.out] at hr2
        rw [HL.out, hh.out]
        have HS2 := Lib.hid (HS.out.step hr2 ho2)
        clear hr2 ho2 c1
        have c2 := HS2.out.o1.cell
        gi_wp2_with fail
        refine ⟨trivial, ?_⟩
        refine (callsIn_wide.2 (HPk.out (c :: r) _ HS2.out.rd)).mono ?_
        rintro e w3 ⟨rfl, hr3, ho3⟩
        rw [hsk.out] at hr3
        rw [hsk.out, hh.out]
        have HS3 := Lib.hid (HS2.out.step hr3 ho3)
        clear hr3 ho3 c2
        have c3 := HS3.out.o1.cell
        gi_wp2_with fail
        refine ⟨trivial, ?_⟩
        refine (callsIn_wide.2 (isBlank_any _ _)).mono ?_
        rintro e w4 ⟨rfl, rfl⟩
        rw [hB.out]
        gi_wp2_with fail
        refine ⟨trivial, ?_⟩
        refine (callsIn_wide.2 (HPk.out (c :: r) _ HS3.out.rd)).mono ?_
        rintro e w5 ⟨rfl, hr5, ho5⟩
        rw [hsk.out] at hr5
        rw [hsk.out, hh.out]
        have HS5 := Lib.hid (HS3.out.step hr5 ho5)
        clear hr5 ho5 c3
        have c5 := HS5.out.o1.cell
        have HSx : Hid (SG w b b1 (b1 + 1) T (gap l) ⟨#[]⟩ w5) := Lib.hid (by rw [← HGe.out]; exact HS5.out)
        clear HS5
        gi_wp2_with fail
        refine ⟨trivial, ?_⟩
        refine (callsIn_wide.2 (splitSeq_any _ _ _)).mono ?_
        rintro e w7 ⟨rfl, hw7⟩
        obtain ⟨h1, h2, h3⟩ := HSx.out.boxes (by rfl) hw7
        have HS7 := Lib.hid h1
        have HB7 := Lib.hid h2
        have hsz7 := h3
        have hb2 := HSx.out.lt
        clear h1 h2 h3 hw7 HSx
        gi_wp2_with fail
        refine wpIn_parts (m := 3) rfl (by omega) (by omega) (by omega) (fun ts W => SG w b b1 (b1 + 1) T (gap l) ⟨#[]⟩ W ∧ (signs.find? fun s => (takeS s (gap l)).isSome) = ts.find? fun s => (takeS s (gap l)).isSome)
          (fun W => ∃ s, (signs.find? fun s => (takeS s (gap l)).isSome) = some s ∧ SG w b b1 (b1 + 1) T (gap l) (toB s) W)
          (fun ts x W W' h ho hx => ⟨h.1.other ho (by omega), h.2⟩) (fun ts W v h => ⟨h.1.other ((Only.refl _ W).setCell v) (by omega), h.2⟩) (fun x W W' h ho hx => by
            obtain ⟨s, hs, h⟩ := h
            exact ⟨s, hs, h.other ho (by omega)⟩) (fun t => t ∈ signs) signs_fine signs (by decide) (fun t h => h) (by decide) ⟨HS7.out, rfl⟩ HB7.out ?act2 ?assign2 ?body2 ?done2 ?stop2
        case assign2 =>
          intro lr t W K hK
          gi_wp2
          exact hK
        case body2 =>
          rintro lr t r W hNt ⟨hSG, hfd⟩ hbx
          have HSG := Lib.hid hSG
          have HFD := Lib.hid hfd
          have HBX := Lib.hid hbx
          have hbw := HSG.out.ne
          have c1 := hSG.o1.cell
          have HP2 := Lib.hid (signs_fine t hNt).2
          clear hSG hfd hbx
          cases hP : (takeS t (gap l)).isSome with
          | false =>
            have HP := Lib.hid hP
            clear hP
            gi_wp2_with fail
            refine ⟨trivial, ?_⟩
            refine (CallsIn.inRound lr (callsIn_wide.2 (HHs.out (gap l) t _ HSG.out.rd HP2.out))).mono ?_
            rintro e w9 ⟨rfl, hr9, ho9⟩
            rw [HP.out]
            have HS9 := Lib.hid (HSG.out.step hr9 ho9)
            have HO9 := Lib.hid ho9
            clear hr9 ho9 c1
            gi_wp2_with fail
            exact ⟨⟨HS9.out, HFD.out.trans (find_no HP.out)⟩, HBX.out.only HO9.out HBX.out.lts (by omega), KeepF.only HO9.out (by omega)⟩
          | true =>
            have HP := Lib.hid hP
            clear hP
            gi_wp2_with fail
            refine ⟨trivial, ?_⟩
            refine (CallsIn.inRound lr (callsIn_wide.2 (HHs.out (gap l) t _ HSG.out.rd HP2.out))).mono ?_
            rintro e w9 ⟨rfl, hr9, ho9⟩
            rw [HP.out]
            have HS9 := Lib.hid (HSG.out.step hr9 ho9)
            have HO9 := Lib.hid ho9
            clear hr9 ho9 c1
            have c2 := HS9.out.o2.cell
            have f2 := HS9.out.o2.fz
            gi_wp2_with fail
            exact ⟨⟨t, HFD.out.trans (find_yes HP.out), HS9.out.setR _⟩, (KeepF.only HO9.out (by omega)).trans (KeepF.only ((Only.refl (b1 + 1) _).setCell _) (by omega))⟩
        case done2 =>
          rintro W ⟨hSG, hfd⟩ hK
          have HSG := Lib.hid hSG
          have HFD := Lib.hid hfd
          have c2 := hSG.o2.cell
          have f2 := hSG.o2.fz
          clear hSG hfd
          gi_wp2_with fail
          have hK2 : (W.setCell ⟨b1 + 1, 0, none⟩ (.string ⟨#[]⟩)).heap[w7.heap.size]? = some (.deferred (some [])) := (heap_setCell_other W ⟨b1 + 1, 0, none⟩ _ _ (fun e => by have : w7.heap.size = b1 + 1 := e; omega)).trans hK
          have HS3 := Lib.hid ((HSG.out.setR ⟨#[]⟩).other (only_put _ w7.heap.size (.deferred none)) (by have := HSG.out.ne; omega))
          have c3 := HS3.out.o2.cell
          refine ⟨by simp, .inl ⟨_, _, rfl, run_takeDeferred hK2, ?_⟩⟩
          have hsg : sg l = [] := by unfold sg; rw [HFD.out]; rfl
          refine ⟨.string ⟨#[]⟩, by simp [results, Tryz.results103, go_sem, c3], ?_⟩
          rw [← HQ.out]
          exact HS3.out.gives hsg
        case stop2 =>
          rintro W ⟨s, hs, hSG⟩ hK
          have HSG := Lib.hid hSG
          have HFD := Lib.hid hs
          clear hSG hs
          gi_wp2_with fail
          have HS3 := Lib.hid (HSG.out.other (only_put _ w7.heap.size (.deferred none)) (by have := HSG.out.ne; omega))
          have c3 := HS3.out.o2.cell
          refine ⟨by simp, .inl ⟨_, _, rfl, run_takeDeferred hK, ?_⟩⟩
          have hsg : sg l = s := by unfold sg; rw [HFD.out]; rfl
          refine ⟨.string (toB s), by simp [results, Tryz.results103, go_sem, c3], ?_⟩
          rw [← HQ.out]
          exact HS3.out.gives hsg

end Go.Proofs.YtonejkomggpbbabGreatDoor

namespace Go.Proofs.YtonejkomggpbbabGreatDoor
open Go.RowKit Go.Shelf

/-- texts in a row -/
def TX (w : World) (g off : Nat) (L : List (List UInt8)) : Prop := ∀ j (h : j < L.length), w.cell? ⟨g, off + j, none⟩ = some (.string (toB L[j]))
theorem toB_eq (a b : List UInt8) : ((toB a).toList == (toB b).toList) = decide (a = b) := by
  rw [show (toB a).toList = a by simp [toB, ByteArray.toList_eq], show (toB b).toList = b by simp [toB, ByteArray.toList_eq], Bool.eq_iff_iff]
  simp
def IsSignGives (b : Nat) (T l : List UInt8) (L : List (List UInt8)) (w : World) (e : Ending) (w' : World) : Prop :=
  ((sg l ∈ L ∧ e = .returned (.tuple #[.string (toB (sg l)), .bool true]) ∧ Rd w' b T (aft (sg l) l)) ∨ (sg l ∉ L ∧ e = .returned (.tuple #[.string ⟨#[]⟩, .bool false]) ∧ Rd w' b T (gap l))) ∧ Only b w w'
set_option maxRecDepth 100000 in
set_option maxHeartbeats 1600000 in
theorem isSign_any (b g off c : Nat) (T l : List UInt8) (L : List (List UInt8)) (w : World) (h : Rd w b T l) (hL : TX w g off L) (hg : g ≠ b) (hgl : g < w.heap.size) (hn : [] ∉ L) (hlen : L.length ≤ 100) :
    Calls Tryz.prog 153 #[.pointer (some ⟨b, 0, none⟩), .slice (some ⟨g, off, none⟩) L.length c] w (IsSignGives b T l L w) := by
  have HSg := Lib.hid (sign_any b T l w h)
  obtain ⟨Q, hQ⟩ : ∃ Q, IsSignGives b T l L w = Q := ⟨_, rfl⟩
  rw [hQ]
  have HQ := Lib.hid hQ
  have HL := Lib.hid hL
  have HN := Lib.hid hn
  clear h hQ hL hn
  go_enter Tryz.func153, Tryz.ntmps153
  go_wp2_with fail
  refine HSg.out.mono ?_
  rintro e w2 ⟨rfl, hr2, ho2⟩
  have HR := Lib.hid hr2
  have HO := Lib.hid ho2
  have HL2 : Hid (TX w2 g off L) := Lib.hid (fun j hj => (World.cell?_of_block (a := ⟨g, off + j, none⟩) (ho2.block g hgl hg)).trans (HL.out j hj))
  clear hr2 ho2 HSg HL
  go_wp2_with fail
  go_loop [13] (fun s13 => ∃ k : Nat, s13 = .int .i64 (k : Int) ∧ k ≤ L.length ∧ Hid (∀ j (h : j < L.length), j < k → L[j] ≠ sg l)) (fun s13 => L.length - (intOf s13).toNat)
  case atStart => exact ⟨0, rfl, Nat.zero_le _, Lib.hid (fun j _ h => absurd h (Nat.not_lt_zero _))⟩
  case round =>
    obtain ⟨k, rfl, hk, HK⟩ := hrel
    by_cases hlt : k < L.length
    · have cl := HL2.out k hlt
      by_cases he : L[k] = sg l
      · have hbe : ((toB (sg l)).toList == (toB L[k]).toList) = true := by rw [toB_eq]; simp [he]
        have hs := sg_some (l := l) (fun e0 => HN.out (e0 ▸ he ▸ List.getElem_mem hlt))
        have HT := Lib.hid (take_any b T (gap l) (sg l) w2 HR.out (signs_fine _ hs.1).2)
        have HA := Lib.hid hs.2
        have HM := Lib.hid (show sg l ∈ L from he ▸ List.getElem_mem hlt)
        clear hs he
        go_wp2_with fail
        refine HT.out.mono ?_
        rintro e w3 ⟨rfl, hr3, ho3⟩
        rw [HA.out] at hr3
        have HF := Lib.hid hr3
        have HG := Lib.hid (HO.out.trans ho3)
        clear hr3 ho3
        go_wp2_with fail
        rw [← HQ.out]
        exact ⟨.inl ⟨HM.out, rfl, HF.out⟩, HG.out⟩
      · have hbe : ((toB (sg l)).toList == (toB L[k]).toList) = false := by rw [toB_eq]; simpa using fun e => he e.symm
        have HK2 : Hid (∀ j (h : j < L.length), j < k + 1 → L[j] ≠ sg l) := Lib.hid (fun j h hj => by
          rcases Nat.lt_succ_iff_lt_or_eq.1 hj with h1 | h1
          · exact HK.out j h h1
          · subst h1
            exact he)
        clear he
        go_wp2_with fail
        go_round
        case rel => exact ⟨k + 1, by go_num, by omega, HK2⟩
        case measure => simp [intOf]; omega
    · obtain rfl : k = L.length := by omega
      have HM := Lib.hid (show sg l ∉ L from fun hm => by
        obtain ⟨j, hj, he⟩ := List.getElem_of_mem hm
        exact HK.out j hj hj he)
      go_wp2_with fail
      rw [← HQ.out]
      exact ⟨.inr ⟨HM.out, rfl, HR.out⟩, HO.out⟩

/-- a panic: where, and what lies behind it -/
def PanGives (b : Nat) (place code : Int) (w : World) (e : Ending) (w' : World) : Prop := e = pan place code ∧ Only b w w'
/-- the place of what is left -/
def plc (T l : List UInt8) : Int := (T.length : Int) - (l.length : Int)
set_option maxRecDepth 100000 in
set_option maxHeartbeats 1600000 in
theorem wrong_any (b : Nat) (T l : List UInt8) (w : World) (h : Rd w b T l) :
    Calls Tryz.prog 157 #[.pointer (some ⟨b, 0, none⟩)] w fun e w' => (if gap l = [] then e = pan T.length 27 else e = pan (plc T (gap l)) 1) ∧ Only b w w' := by
  have HSg := Lib.hid (sign_any b T l w h)
  obtain ⟨Q, hQ⟩ : ∃ Q, (fun (e : Ending) (w' : World) => (if gap l = [] then e = pan T.length 27 else e = pan (plc T (gap l)) 1) ∧ Only b w w') = Q := ⟨_, rfl⟩
  rw [hQ]
  have HQ := Lib.hid hQ
  clear h hQ
  go_enter Tryz.func157, Tryz.ntmps157
  go_wp2_with fail
  refine HSg.out.mono ?_
  rintro e w2 ⟨rfl, hr2, ho2⟩
  have HR := Lib.hid hr2
  have HO := Lib.hid ho2
  clear hr2 ho2 HSg
  go_wp2_with fail
  refine (peek_any b T (gap l) _ HR.out).mono ?_
  rintro e w3 ⟨rfl, hr3, ho3⟩
  rw [skipJ_gap] at hr3 ⊢
  have HR3 := Lib.hid hr3
  have HO3 := Lib.hid (HO.out.trans ho3)
  clear hr3 ho3 HR HO
  by_cases hg : gap l = []
  · have hh : headI (gap l) = -1 := by rw [hg]; rfl
    have HG := Lib.hid hg
    rw [hh]
    clear hh hg
    go_wp2_with fail
    refine (more_any b T _ _ HR3.out).mono ?_
    rintro e w4 ⟨rfl, rfl⟩
    unfold pan
    go_wp2_with fail
    rw [← HQ.out]
    exact ⟨rfl, by rw [if_pos HG.out]; rfl, HO3.out⟩
  · obtain ⟨c, r, hc⟩ : ∃ c r, gap l = c :: r := by
      cases h : gap l with
      | nil => exact absurd h hg
      | cons c r => exact ⟨c, r, rfl⟩
    have hh : (headI (gap l) == -1) = false := by
      rw [hc, beq_eq_false_iff_ne]
      show (c.toNat : Int) ≠ -1
      omega
    have HG := Lib.hid hg
    obtain ⟨p, lf, hp, hlf1, hlf2, hd, k0, k1, k2, k4, kf, kbx⟩ := HR3.out.cells
    have HP := Lib.hid (show plc T (gap l) = (p : Int) by unfold plc; omega)
    clear hg hc kbx hd hp k0 k2 k4
    go_wp2_with fail
    refine (fail_any _ _ _).mono ?_
    rintro e w4 ⟨rfl, rfl⟩
    unfold pan
    go_wp2_with fail
    rw [← HQ.out]
    exact ⟨rfl, by rw [if_neg HG.out, HP.out]; rfl, HO3.out⟩
def SkipGives (b : Nat) (T l : List UInt8) (w : World) (e : Ending) (w' : World) : Prop := e = .returned (.int .i64 (plc T (gap l))) ∧ Rd w' b T (gap l) ∧ Only b w w'
set_option maxRecDepth 100000 in
set_option maxHeartbeats 1600000 in
theorem skip_any (b : Nat) (T l : List UInt8) (w : World) (h : Rd w b T l) :
    Calls Tryz.prog 208 #[.pointer (some ⟨b, 0, none⟩)] w (SkipGives b T l w) := by
  have HSg := Lib.hid (sign_any b T l w h)
  obtain ⟨Q, hQ⟩ : ∃ Q, SkipGives b T l w = Q := ⟨_, rfl⟩
  rw [hQ]
  have HQ := Lib.hid hQ
  clear h hQ
  go_enter Tryz.func208, Tryz.ntmps208
  go_wp2_with fail
  refine HSg.out.mono ?_
  rintro e w2 ⟨rfl, hr2, ho2⟩
  have HR := Lib.hid hr2
  have HO := Lib.hid ho2
  obtain ⟨p, lf, hp, hlf1, hlf2, hd, k0, k1, k2, k4, kf, kbx⟩ := hr2.cells
  have HP := Lib.hid (show plc T (gap l) = (p : Int) by unfold plc; omega)
  clear hr2 ho2 HSg kbx hd hp k0 k2 k4
  go_wp2_with fail
  rw [← HQ.out]
  exact ⟨by rw [HP.out]; rfl, HR.out, HO.out⟩

end Go.Proofs.YtonejkomggpbbabGreatDoor

namespace Go.Proofs.YtonejkomggpbbabGreatDoor
open Go.RowKit Go.Shelf

theorem run_end {q : UInt8 → Bool} : ∀ {l : List UInt8}, skipJ l = [] → run q l = ([], [])
  | [], _ => rfl
  | [a], h => by cases h
  | a :: b :: r, h => by
    by_cases hj : a = 92 ∧ b = 10
    · have h2 : skipJ r = [] := by simpa [skipJ, hj] using h
      have := run_end (q := q) h2
      simpa [run, hj] using this
    · simp [skipJ, hj] at h
theorem run_cons {q : UInt8 → Bool} : ∀ {l : List UInt8} {c : UInt8} {r : List UInt8}, skipJ l = c :: r → run q l = if q c = true then (c :: (run q r).1, (run q r).2) else ([], c :: r)
  | [], _, _, h => by cases h
  | [a], c, r, h => by
    have h2 : a = c ∧ ([] : List UInt8) = r := by simpa [skipJ] using h
    obtain ⟨rfl, rfl⟩ := h2
    simp [run]
  | a :: b :: t, c, r, h => by
    by_cases hj : a = 92 ∧ b = 10
    · have h2 : skipJ t = c :: r := by simpa [skipJ, hj] using h
      have := run_cons (q := q) h2
      simpa [run, hj] using this
    · have h2 : a = c ∧ b :: t = r := by simpa [skipJ, hj] using h
      obtain ⟨rfl, rfl⟩ := h2
      simp [run, hj]
theorem run_skipJ {q : UInt8 → Bool} (l : List UInt8) : run q (skipJ l) = run q l := by
  cases h : skipJ l with
  | nil => rw [run_end h]; rfl
  | cons c r =>
    have h2 := skipJ_skipJ l
    rw [h] at h2
    rw [run_cons h2, run_cons h]
abbrev bytesV (l : List UInt8) : List Value := l.map fun c => Value.int .u8 (c.toNat : Int)
theorem byteInfo : (Tryz.prog.info? 5).map (fun i => (i.zero, i.size, i.bytes)) = some (some (.int .u8 0), 1, 1) := by kernel_rfl
theorem own_only {w w' : World} {B b n : Nat} {e : TypeId} {s : Nat} {v : Value} {L : List Value} (h : w.ownsRow B e s v n L) (ho : Only b w w') (hb : b < B) : w'.ownsRow B e s v n L := by
  refine ⟨h.1, ?_⟩
  rcases h.2 with h0 | ⟨g, cap, cur, hv, h1, h2, h3⟩
  · exact .inl h0
  · exact .inr ⟨g, cap, cur, hv, h1, (ho.block g (Array.getElem?_eq_some_iff.1 h2).1 (by omega)).trans h2, h3⟩
/-- 'string(b)' of an own row -/
theorem row_string {w : World} {B n : Nat} {v : Value} {l : List UInt8} (h : w.ownsRow B 5 1 v n (bytesV l)) : (convert 99 9 v).run Tryz.prog w = .ok (.string ⟨l.toArray⟩) w := by
  have hn : l.length = n := by have := h.1; simpa [bytesV] using this
  subst hn
  rcases h.2 with ⟨rfl, h0⟩ | ⟨g, cap, cur, rfl, _⟩
  · have : l = [] := List.length_eq_zero_iff.1 h0
    subst this
    rw [run_convert_bytes_string w 99 9 5 none 0 0 Tryz.underlying99 Tryz.underlying5 Tryz.underlying9]
    simp [Conv.bytesToString]
    rfl
  · exact run_convert_bytes_back w 99 9 5 ⟨g, 0, none⟩ cap l Tryz.underlying99 Tryz.underlying5 Tryz.underlying9 (fun j hj => h.cells (g := g) rfl j _ (by simp [bytesV, hj]))
theorem isLB_u8 (c : UInt8) : isLB (c.toNat : Int) = isL c := by
  unfold isLB isL
  rw [Bool.eq_iff_iff]
  simp
  omega
theorem isDB_u8 (c : UInt8) : isDB (c.toNat : Int) = isD c := by
  unfold isDB isD
  rw [Bool.eq_iff_iff]
  simp
  omega
theorem new_one (w : World) (u : Value) (t : TypeId) : ∀ j z, ([u] : List Value)[j]? = some z → (w.alloc (.cells #[u] t)).cell? ((⟨w.heap.size, 0, none⟩ : Addr).add j) = some z := fun j z hz => by
  have hh := heap_alloc_new w (.cells #[u] t)
  match j, hz with
  | 0, hz => rw [← hz, WideShapes.add_plain]; unfold World.cell?; dsimp only; rw [hh]; rfl
  | j + 1, hz => simp at hz
theorem Only.grown {b : Nat} {w a w' : World} {row : Option Nat} (h : Only b w a) (hg : a.grownBy w' row) (hr : ∀ r, row = some r → w.heap.size ≤ r) : Only b w w' :=
  ⟨hg.os.trans h.os, hg.tape.trans h.tape, hg.output.trans h.output, Nat.le_trans h.size hg.size, fun k hk hb => (hg.block k (Nat.lt_of_lt_of_le hk h.size) (fun e => by have := hr k e.symm; omega)).trans (h.block k hk hb)⟩
theorem Rd.grown {w w' : World} {b B : Nat} {T l : List UInt8} {row : Option Nat} (h : Rd w b T l) (hg : w.grownBy w' row) (hr : ∀ r, row = some r → B ≤ r) (hb : b < B) : Rd w' b T l := by
  obtain ⟨p, lf, h1, h2, h3, h4⟩ := h.box
  exact ⟨⟨p, lf, h1, h2, h3, (hg.block b h.lt (fun e => by have := hr b e.symm; omega)).trans h4⟩, h.suf, h.len⟩
theorem own_form {w : World} {B n : Nat} {e : TypeId} {s : Nat} {v : Value} {L : List Value} (h : w.ownsRow B e s v n L) : ∃ A c, v = .slice A n c := by
  rcases h.2 with ⟨rfl, rfl⟩ | ⟨g, cap, cur, rfl, _⟩
  · exact ⟨_, _, rfl⟩
  · exact ⟨_, _, rfl⟩
theorem bytes_snoc (l : List UInt8) (c : UInt8) : bytesV l ++ [Value.int .u8 (c.toNat : Int)] = bytesV (l ++ [c]) := by simp [bytesV]

def startL (l : List UInt8) : Bool := match skipJ l with
  | [] => false
  | c :: _ => isL c
/-- what name finds -/
def NameIs (l s l' : List UInt8) : Prop := (startL l = false ∧ s = [] ∧ l' = skipJ l) ∨ (startL l = true ∧ (run isW l).1.length ≤ 64 ∧ s = (run isW l).1 ∧ l' = (run isW l).2) ∨
  (startL l = true ∧ 64 < (run isW l).1.length ∧ s ≠ [] ∧ ∃ c r, l' = c :: r ∧ isW c = true)
def NameGives (b : Nat) (T l : List UInt8) (w : World) (e : Ending) (w' : World) : Prop := ∃ s l', e = .returned (.string (toB s)) ∧ Rd w' b T l' ∧ Only b w w' ∧ NameIs l s l'
set_option maxRecDepth 100000 in
set_option maxHeartbeats 3200000 in
theorem name_any (b : Nat) (T l : List UInt8) (w : World) (h : Rd w b T l) :
    Calls Tryz.prog 107 #[.pointer (some ⟨b, 0, none⟩)] w (NameGives b T l w) := by
  obtain ⟨i1, hi1, hy0, hy1, hy2⟩ := info_parts byteInfo
  have HPk := Lib.hid (fun l' W hW => peek_any b T l' W hW)
  have HNx := Lib.hid (fun l' c r W hW hl => next_any b T l' c r W hW hl)
  have HR := Lib.hid h
  have hlt := h.lt
  obtain ⟨Q, hQ⟩ : ∃ Q, NameGives b T l w = Q := ⟨_, rfl⟩
  rw [hQ]
  have HQ := Lib.hid hQ
  clear h hQ
  go_enter Tryz.func107, Tryz.ntmps107
  go_wp2_with fail
  refine (HPk.out l _ HR.out).mono ?_
  rintro e w2 ⟨rfl, hr2, ho2⟩
  have HR2 := Lib.hid hr2
  have HO2 := Lib.hid ho2
  clear hr2 ho2 HR
  cases hs : startL l with
  | false =>
    have hb1 : isLB (headI (skipJ l)) = false := by
      unfold startL at hs
      cases hk : skipJ l with
      | nil => rfl
      | cons c r =>
        rw [hk] at hs
        show isLB (c.toNat : Int) = false
        rw [isLB_u8]
        exact hs
    have HB1 := Lib.hid hb1
    have HS := Lib.hid hs
    clear hb1 hs
    go_wp2_with fail
    refine (isLetter_any _ _).mono ?_
    rintro e w3 ⟨rfl, rfl⟩
    rw [HB1.out]
    have hcv := row_string (l := []) (World.ownsRow_nil w2 w.heap.size 5 1)
    go_wp2_with fail
    rw [← HQ.out]
    exact ⟨[], _, rfl, HR2.out, HO2.out, .inl ⟨HS.out, rfl, rfl⟩⟩
  | true =>
    obtain ⟨c0, r0, hk, hc0⟩ : ∃ c0 r0, skipJ l = c0 :: r0 ∧ isL c0 = true := by
      unfold startL at hs
      cases hk : skipJ l with
      | nil => rw [hk] at hs; cases hs
      | cons c r => rw [hk] at hs; exact ⟨c, r, rfl, hs⟩
    have hb1 : isLB (headI (skipJ l)) = true := by
      rw [hk]
      show isLB (c0.toNat : Int) = true
      rw [isLB_u8]
      exact hc0
    have HB1 := Lib.hid hb1
    have HS := Lib.hid hs
    have HK := Lib.hid (skipJ_skipJ l)
    have hrun : (run isW l).1 ≠ [] := by
      rw [run_cons hk, if_pos (by unfold isW; rw [hc0]; rfl)]
      exact fun e => by cases e
    have HNe := Lib.hid hrun
    clear hb1 hs hk hc0 hrun
    go_wp2_with fail
    refine (isLetter_any _ _).mono ?_
    rintro e w3 ⟨rfl, rfl⟩
    rw [HB1.out]
    go_wp2_with fail
    refine (HPk.out (skipJ l) _ HR2.out).mono ?_
    rintro e w3 ⟨rfl, hr3, ho3⟩
    rw [HK.out] at hr3 ⊢
    have HR3 := Lib.hid hr3
    have HO3 := Lib.hid (HO2.out.trans ho3)
    clear hr3 ho3 HR2 HO2
    go_wp2_with fail
    go_loopw [3, 4] (fun s3 s4 wr => ∃ (v : Value) (acc l1 : List UInt8), v = s3 ∧ s4 = .int .i64 (headI l1) ∧ Hid (skipJ l1 = l1) ∧ Hid (Rd wr b T l1) ∧ Hid (wr.ownsRow w.heap.size 5 1 v acc.length (bytesV acc)) ∧ Hid (acc ++ (run isW l1).1 = (run isW l).1) ∧ Hid ((run isW l1).2 = (run isW l).2) ∧ acc.length ≤ 64 ∧ Hid (Only b w wr)) (fun _ _ wr => T.length - posOf wr b)
    case atStart => exact ⟨_, [], skipJ l, rfl, rfl, HK, HR3, Lib.hid (World.ownsRow_nil _ _ _ _), Lib.hid (by rw [run_skipJ]; rfl), Lib.hid (by rw [run_skipJ]), by simp, HO3⟩
    case round =>
      clear HR3 HO3 HB1 HK
      obtain ⟨v, acc, l1, rfl, rfl, HL1, HR1, HV, HA1, HA2, hacc, HO1⟩ := hrel
      obtain ⟨A0, cp0, hv0⟩ := own_form HV.out
      subst hv0
      cases l1 with
      | nil =>
        have hL := Lib.hid (show isLB (headI []) = false from rfl)
        have hD := Lib.hid (show isDB (headI []) = false from rfl)
        go_wp2_with fail
        refine (isLetter_any _ _).mono ?_
        rintro e w3 ⟨rfl, rfl⟩
        rw [hL.out]
        go_wp2_with fail
        refine (isDigit_any _ _).mono ?_
        rintro e w3 ⟨rfl, rfl⟩
        rw [hD.out]
        have hcv := row_string HV.out
        go_wp2_with fail
        rw [← HQ.out]
        exact ⟨acc, [], rfl, HR1.out, HO1.out, .inr (.inl ⟨HS.out, by have h := HA1.out; simp [run] at h; rw [← h]; exact hacc, by have h := HA1.out; simpa [run] using h, by have h := HA2.out; simpa [run] using h⟩)⟩
      | cons c r =>
        have HPos := Lib.hid HR1.out.pos
        cases hw : isW c with
        | false =>
          have hr := run_cons (q := isW) HL1.out
          rw [hw] at hr
          have hLf : isL c = false := by unfold isW at hw; simp at hw; exact hw.1
          have hDf : isD c = false := by unfold isW at hw; simp at hw; exact hw.2
          have hL := Lib.hid (show isLB (headI (c :: r)) = false from (isLB_u8 c).trans hLf)
          have hD := Lib.hid (show isDB (headI (c :: r)) = false from (isDB_u8 c).trans hDf)
          have HA1c := Lib.hid (show acc = (run isW l).1 by have h := HA1.out; rw [hr] at h; simpa using h)
          have HA2c := Lib.hid (show c :: r = (run isW l).2 by have h := HA2.out; rw [hr] at h; simpa using h)
          clear hr hw hLf hDf
          go_wp2_with fail
          refine (isLetter_any _ _).mono ?_
          rintro e w3 ⟨rfl, rfl⟩
          rw [hL.out]
          go_wp2_with fail
          refine (isDigit_any _ _).mono ?_
          rintro e w3 ⟨rfl, rfl⟩
          rw [hD.out]
          have hcv := row_string HV.out
          go_wp2_with fail
          rw [← HQ.out]
          exact ⟨acc, c :: r, rfl, HR1.out, HO1.out, .inr (.inl ⟨HS.out, by rw [← HA1c.out]; exact hacc, HA1c.out, HA2c.out⟩)⟩
        | true =>
          have hr := run_cons (q := isW) HL1.out
          rw [hw, if_pos rfl] at hr
          have HA1c := Lib.hid (show acc ++ ([c] ++ (run isW r).1) = (run isW l).1 by have h := HA1.out; rw [hr] at h; exact h)
          have HA2c := Lib.hid (show (run isW r).2 = (run isW l).2 by have h := HA2.out; rw [hr] at h; exact h)
          have HW := Lib.hid hw
          by_cases hlt64 : acc.length < 64
          · cases hLc : isL c with
            | true =>
              have hL := Lib.hid (show isLB (headI (c :: r)) = true from (isLB_u8 c).trans hLc)
              clear hr hw hLc
              go_wp2_with fail
              refine (isLetter_any _ _).mono ?_
              rintro e w3 ⟨rfl, rfl⟩
              rw [hL.out]
              go_wp2_with fail
              refine (HNx.out (c :: r) c r _ HR1.out HL1.out).mono ?_
              rintro e w4 ⟨rfl, hr4, ho4⟩
              have HR4 := Lib.hid hr4
              have HO4 := Lib.hid (HO1.out.trans ho4)
              have HV4 := Lib.hid (own_only HV.out ho4 hlt)
              have HVa := Lib.hid (HV4.out.alloc (.cells #[.int .u8 (c.toNat : Int)] 5))
              have HN := Lib.hid (new_one w4 (.int .u8 (c.toNat : Int)) 5)
              have hba := (Below.refl w4.heap.size w4).alloc (Nat.le_refl _) (.cells #[.int .u8 (c.toNat : Int)] 5)
              have HRa := Lib.hid (HR4.out.keep hba)
              have HOa := Lib.hid (HO4.out.trans (Only.of (b := b) hba (Nat.le_refl _)))
              clear hr4 ho4 hba
              have hzz := HO4.out.size
              go_wp2_with (at_builtin; refine wpList_append_own _ rfl _ _ 99 rfl w.heap.size 5 i1 (.int .u8 0) 1 1 Tryz.underlying99 hi1 hy0 hy1 hy2 rfl (by decide) (.slice A0 acc.length cp0) acc.length _ rfl HVa.out ⟨w4.heap.size, 0, none⟩ 1 1 [.int .u8 (c.toNat : Int)] rfl rfl HN.out (fun z hz => by simp at hz; subst hz; rfl) ?c3 ?c4 ?c5 ?_)
              case c3 => unfold maxLen; omega
              case c4 => omega
              case c5 => simp; omega
              intro v6 w6 hown6 hg6 _
              have hgr : ∀ q, (Value.slice A0 acc.length cp0).ownBlock = some q → w.heap.size ≤ q := fun q hq => (HVa.out.lt q hq).1
              have HR6 := Lib.hid (HRa.out.grown hg6 hgr hlt)
              have HO6 := Lib.hid (HOa.out.grown hg6 hgr)
              have HV6 : Hid (w6.ownsRow w.heap.size 5 1 v6 (acc ++ [c]).length (bytesV (acc ++ [c]))) := Lib.hid (by
                rw [← bytes_snoc, List.length_append]
                exact hown6)
              clear hown6 hg6 hgr hzz HV HR1 HO1 HVa HN HRa HOa HR4 HO4 HV4
              go_wp2_with fail
              refine (HPk.out r _ HR6.out).mono ?_
              rintro e w7 ⟨rfl, hr7, ho7⟩
              have HR7 := Lib.hid hr7
              have HO7 := Lib.hid (HO6.out.trans ho7)
              have HV7 := Lib.hid (own_only HV6.out ho7 hlt)
              clear hr7 ho7
              go_wp2_with fail
              refine ⟨⟨v6, acc ++ [c], skipJ r, rfl, rfl, Lib.hid (skipJ_skipJ r), HR7, HV7, Lib.hid (by rw [run_skipJ, List.append_assoc]; exact HA1c.out), Lib.hid (by rw [run_skipJ]; exact HA2c.out), by simp; omega, HO7⟩, ?_⟩
              have h1 := HPos.out
              have h2 := HR7.out.pos
              have h3 := skipJ_len r
              have h4 : (c :: r).length = r.length + 1 := rfl
              show T.length - posOf _ b < _
              omega
            | false =>
              have hDt : isD c = true := by unfold isW at hw; rw [hLc] at hw; simpa using hw
              have hL := Lib.hid (show isLB (headI (c :: r)) = false from (isLB_u8 c).trans hLc)
              have hD := Lib.hid (show isDB (headI (c :: r)) = true from (isDB_u8 c).trans hDt)
              clear hr hw hLc hDt
              go_wp2_with fail
              refine (isLetter_any _ _).mono ?_
              rintro e w3 ⟨rfl, rfl⟩
              rw [hL.out]
              go_wp2_with fail
              refine (isDigit_any _ _).mono ?_
              rintro e w3 ⟨rfl, rfl⟩
              rw [hD.out]
              go_wp2_with fail
              refine (HNx.out (c :: r) c r _ HR1.out HL1.out).mono ?_
              rintro e w4 ⟨rfl, hr4, ho4⟩
              have HR4 := Lib.hid hr4
              have HO4 := Lib.hid (HO1.out.trans ho4)
              have HV4 := Lib.hid (own_only HV.out ho4 hlt)
              have HVa := Lib.hid (HV4.out.alloc (.cells #[.int .u8 (c.toNat : Int)] 5))
              have HN := Lib.hid (new_one w4 (.int .u8 (c.toNat : Int)) 5)
              have hba := (Below.refl w4.heap.size w4).alloc (Nat.le_refl _) (.cells #[.int .u8 (c.toNat : Int)] 5)
              have HRa := Lib.hid (HR4.out.keep hba)
              have HOa := Lib.hid (HO4.out.trans (Only.of (b := b) hba (Nat.le_refl _)))
              clear hr4 ho4 hba
              have hzz := HO4.out.size
              go_wp2_with (at_builtin; refine wpList_append_own _ rfl _ _ 99 rfl w.heap.size 5 i1 (.int .u8 0) 1 1 Tryz.underlying99 hi1 hy0 hy1 hy2 rfl (by decide) (.slice A0 acc.length cp0) acc.length _ rfl HVa.out ⟨w4.heap.size, 0, none⟩ 1 1 [.int .u8 (c.toNat : Int)] rfl rfl HN.out (fun z hz => by simp at hz; subst hz; rfl) ?c3 ?c4 ?c5 ?_)
              case c3 => unfold maxLen; omega
              case c4 => omega
              case c5 => simp; omega
              intro v6 w6 hown6 hg6 _
              have hgr : ∀ q, (Value.slice A0 acc.length cp0).ownBlock = some q → w.heap.size ≤ q := fun q hq => (HVa.out.lt q hq).1
              have HR6 := Lib.hid (HRa.out.grown hg6 hgr hlt)
              have HO6 := Lib.hid (HOa.out.grown hg6 hgr)
              have HV6 : Hid (w6.ownsRow w.heap.size 5 1 v6 (acc ++ [c]).length (bytesV (acc ++ [c]))) := Lib.hid (by
                rw [← bytes_snoc, List.length_append]
                exact hown6)
              clear hown6 hg6 hgr hzz HV HR1 HO1 HVa HN HRa HOa HR4 HO4 HV4
              go_wp2_with fail
              refine (HPk.out r _ HR6.out).mono ?_
              rintro e w7 ⟨rfl, hr7, ho7⟩
              have HR7 := Lib.hid hr7
              have HO7 := Lib.hid (HO6.out.trans ho7)
              have HV7 := Lib.hid (own_only HV6.out ho7 hlt)
              clear hr7 ho7
              go_wp2_with fail
              refine ⟨⟨v6, acc ++ [c], skipJ r, rfl, rfl, Lib.hid (skipJ_skipJ r), HR7, HV7, Lib.hid (by rw [run_skipJ, List.append_assoc]; exact HA1c.out), Lib.hid (by rw [run_skipJ]; exact HA2c.out), by simp; omega, HO7⟩, ?_⟩
              have h1 := HPos.out
              have h2 := HR7.out.pos
              have h3 := skipJ_len r
              have h4 : (c :: r).length = r.length + 1 := rfl
              show T.length - posOf _ b < _
              omega
          · have hlen : acc.length = 64 := by omega
            have HB64 := Lib.hid (show 64 < (run isW l).1.length by rw [← HA1c.out]; simp; omega)
            have HNA := Lib.hid (show acc ≠ [] from fun e => by rw [e] at hlen; cases hlen)
            have hge : (64 : Int) ≤ (acc.length : Int) := by omega
            clear hlt64 hlen
            cases hLc : isL c with
            | true =>
              have hL := Lib.hid (show isLB (headI (c :: r)) = true from (isLB_u8 c).trans hLc)
              clear hr hw hLc
              go_wp2_with fail
              refine (isLetter_any _ _).mono ?_
              rintro e w3 ⟨rfl, rfl⟩
              rw [hL.out]
              have hcv := row_string HV.out
              go_wp2_with fail
              rw [← HQ.out]
              exact ⟨acc, c :: r, rfl, HR1.out, HO1.out, .inr (.inr ⟨HS.out, HB64.out, HNA.out, c, r, rfl, HW.out⟩)⟩
            | false =>
              have hDt : isD c = true := by unfold isW at hw; rw [hLc] at hw; simpa using hw
              have hL := Lib.hid (show isLB (headI (c :: r)) = false from (isLB_u8 c).trans hLc)
              have hD := Lib.hid (show isDB (headI (c :: r)) = true from (isDB_u8 c).trans hDt)
              clear hr hw hLc hDt
              go_wp2_with fail
              refine (isLetter_any _ _).mono ?_
              rintro e w3 ⟨rfl, rfl⟩
              rw [hL.out]
              go_wp2_with fail
              refine (isDigit_any _ _).mono ?_
              rintro e w3 ⟨rfl, rfl⟩
              rw [hD.out]
              have hcv := row_string HV.out
              go_wp2_with fail
              rw [← HQ.out]
              exact ⟨acc, c :: r, rfl, HR1.out, HO1.out, .inr (.inr ⟨HS.out, HB64.out, HNA.out, c, r, rfl, HW.out⟩)⟩

end Go.Proofs.YtonejkomggpbbabGreatDoor
