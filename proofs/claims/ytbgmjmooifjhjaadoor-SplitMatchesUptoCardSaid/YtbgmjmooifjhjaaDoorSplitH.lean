/- SplitMatches, the reference: what is a blank that separates; what holds while a text is divided. -/
import Derived.Test.YtbgmjmooifjhjaaDoorSplitG
import Derived.Deep.DeepCutAuto
namespace Go.Proofs.YtbgmjmooifjhjaaDoor
open Go.RowKit

theorem atB_blank (T F : List UInt8) (i : Nat) (hi : i < T.length) : atB T i (inL (blankF F)) = (atB T i (inL F) && inL plainS T[i]) := by
  rw [atB_at hi, atB_at hi, inL_blank]; rfl
set_option maxRecDepth 100000 in
set_option maxHeartbeats 1600000 in
theorem rblank_any (T : List UInt8) (v : Value) (F : ByteArray) (i g : Nat) (w : World) (hv : ML m2 w v T) (hb : RBx w g v F) :
    Calls Tryd.prog 38 #[.int .i64 (i : Int), .pointer (some ⟨g + 2, 0, none⟩), .pointer (some ⟨g, 0, none⟩)] w fun e w' => e = .returned (.bool (atB T i (inL (blankF F.data.toList)))) ∧ Below w.heap.size w w' := by
  have HSp := Lib.hid (rsep_any T v F i g w hv hb)
  have HR := Lib.hid hb
  have HV := Lib.hid hv
  obtain ⟨A, c, rfl, hc, hz⟩ := id hv
  clear hz hv
  have hsf := hb.s
  clear hb
  go_enter Tryd.func38, Tryd.ntmps38
  go_wp2_with fail
  refine HSp.out.mono ?_
  rintro e w2 ⟨rfl, hb2⟩
  have HB2 := Lib.hid hb2
  have HR2 := Lib.hid (HR.out.keep hb2)
  have HV2 := Lib.hid (HV.out.keep hb2)
  clear hb2 hsf HSp
  cases hq : atB T i (inL F.data.toList) with
  | false =>
    have hfin : atB T i (inL (blankF F.data.toList)) = false := by
      rcases Nat.lt_or_ge i T.length with h | h
      · rw [atB_blank _ _ _ h, hq]; rfl
      · exact atB_end h _
    have HFI := Lib.hid hfin
    clear hq hfin
    go_wp2_with fail
    go_ret
    exact ⟨ret_bool HFI.out.symm, HB2.out⟩
  | true =>
    have hi := atB_lt hq
    have hfin : atB T i (inL (blankF F.data.toList)) = inL plainS T[i] := by rw [atB_blank _ _ _ hi, hq]; rfl
    have HFI := Lib.hid hfin
    obtain ⟨b, off, rfl, hb, h1, h2⟩ := HV2.out.at hi
    have HX := Lib.hid (fun W => index_any ⟨#[32, 9, 10]⟩ T[i] W)
    have hidx := index_in plainS T[i]
    have hl := HR2.out.l
    clear hq hfin
    generalize T[i] = ch at *
    go_wp2_with fail
    refine (HX.out _).mono ?_
    rintro e w3 ⟨rfl, hw3⟩
    subst hw3
    go_wp2_with fail
    go_ret
    exact ⟨ret_bool (by rw [HFI.out]; exact hidx), HB2.out⟩

theorem own_ne' {w : World} {B B' e e' s s' n n' : Nat} {v u : Value} {xs ys : List Value} (h : w.ownsRow B e s v n xs) (k : w.ownsRow B' e' s' u n' ys) (hne : e ≠ e') : v.ownBlock = none ∨ v.ownBlock ≠ u.ownBlock := by
  rcases h.2 with ⟨rfl, _⟩ | ⟨g, c, cur, rfl, _, hg, _⟩
  · exact .inl rfl
  · rcases k.2 with ⟨rfl, _⟩ | ⟨g', c', cur', rfl, _, hg', _⟩
    · exact .inr (by simp [Value.ownBlock])
    · refine .inr fun hh => hne ?_
      have : g = g' := by simpa [Value.ownBlock] using hh
      subst this
      rw [hg] at hg'
      simpa using congrArg (fun o => match o with | some (Obj.cells _ t _) => t | _ => 0) hg'
/-- what holds while a text is divided: the fields written, the part begun -/
structure RS (w1 wx : World) (vo : Value) (vs : List Value) (fs : List (List UInt8)) (vp : Value) (part : List UInt8) (B : Nat) : Prop where
  out : wx.ownsRow w1.heap.size 62 1 vo vs.length vs
  len : vs.length = fs.length
  els : ∀ j (h : j < vs.length) (h' : j < fs.length), wx.ownsRow w1.heap.size 66 2 vs[j] fs[j].length (mkC m2 fs[j]) ∧ ∀ k, vs[j].ownBlock = some k → k < B
  part : wx.ownsRow B 66 2 vp part.length (mkC m2 part)
  lo : w1.heap.size ≤ B
  hi : B ≤ wx.heap.size
  below : Below w1.heap.size w1 wx
theorem RS.kept {w1 wx w' : World} {vo : Value} {vs : List Value} {fs : List (List UInt8)} {vp : Value} {part : List UInt8} {B : Nat} (h : RS w1 wx vo vs fs vp part B) (hb : Below wx.heap.size wx w') : RS w1 w' vo vs fs vp part B := by
  have hg : wx.grownBy w' none := ⟨hb.os, hb.tape, hb.output, hb.size, fun k hk _ => hb.block k hk⟩
  exact ⟨h.out.kept hg (by cases vo.ownBlock <;> simp), h.len, fun j h1 h2 => ⟨(h.els j h1 h2).1.kept hg (by cases vs[j].ownBlock <;> simp), (h.els j h1 h2).2⟩, h.part.kept hg (by cases vp.ownBlock <;> simp), h.lo, Nat.le_trans h.hi hb.size, h.below.trans (hb.mono h.below.size)⟩
theorem RS.alloc {w1 wx : World} {vo : Value} {vs : List Value} {fs : List (List UInt8)} {vp : Value} {part : List UInt8} {B : Nat} (h : RS w1 wx vo vs fs vp part B) (o : Obj) : RS w1 (wx.alloc o) vo vs fs vp part B := h.kept ((Below.refl _ wx).alloc (Nat.le_refl _) o)
/-- a byte more in the part -/
theorem RS.put {w1 wx w' : World} {vo : Value} {vs : List Value} {fs : List (List UInt8)} {vp vq : Value} {part : List UInt8} {B : Nat} {c : UInt8} (h : RS w1 wx vo vs fs vp part B) (hg : wx.grownBy w' vp.ownBlock) (ho : w'.ownsRow B 66 2 vq (part.length + 1) (mkC m2 part ++ [.int .u8 (c.toNat : Int), m2])) : RS w1 w' vo vs fs vq (part ++ [c]) B := by
  have hlo := h.lo
  refine ⟨h.out.kept hg (own_ne' h.out h.part (by decide)), h.len, fun j h1 h2 => ⟨(h.els j h1 h2).1.kept hg ?_, (h.els j h1 h2).2⟩, by rw [List.length_append, mkC_app]; exact ho, h.lo, Nat.le_trans h.hi hg.size, h.below.grown hg h.below.size (fun g hgg => Nat.le_trans hlo (h.part.lt g hgg).1)⟩
  cases hb : vs[j].ownBlock with
  | none => exact .inl rfl
  | some k =>
    refine .inr fun e => ?_
    have h3 := (h.els j h1 h2).2 k hb
    have h4 := (h.part.lt k e.symm).1
    omega
/-- the part is handed to what is written -/
theorem RS.hand {w1 wx w' : World} {vo vq : Value} {vs : List Value} {fs : List (List UInt8)} {vp : Value} {part : List UInt8} {B : Nat} (h : RS w1 wx vo vs fs vp part B) (hg : wx.grownBy w' vo.ownBlock) (ho : w'.ownsRow w1.heap.size 62 1 vq (vs.length + 1) (vs ++ [vp])) : RS w1 w' vq (vs ++ [vp]) (fs ++ [part]) (.slice none 0 0) [] w'.heap.size := by
  have hlo := h.lo
  have hlen := h.len
  have hs : w1.heap.size ≤ w'.heap.size := Nat.le_trans h.below.size hg.size
  refine ⟨by rw [List.length_append]; exact ho, by simp [h.len], fun j h1 h2 => ?_, World.ownsRow_nil _ _ _ _, hs, Nat.le_refl _, h.below.grown hg h.below.size (fun g hgg => (h.out.lt g hgg).1)⟩
  by_cases hj : j < vs.length
  · rw [List.getElem_append_left hj, List.getElem_append_left (show j < fs.length by omega)]
    have he := h.els j hj (by omega)
    exact ⟨he.1.kept hg (own_ne' he.1 h.out (by decide)), fun k hk => Nat.lt_of_lt_of_le (he.1.lt k hk).2 hg.size⟩
  · have hje : j = vs.length := by simp at h1; omega
    subst hje
    have e1 : (vs ++ [vp])[vs.length] = vp := by rw [List.getElem_append_right (Nat.le_refl _)]; simp
    have e2 : (fs ++ [part])[vs.length]'h2 = part := by rw [List.getElem_append_right (by omega)]; simp [hlen]
    rw [e1, e2]
    have hp : wx.ownsRow w1.heap.size 66 2 vp part.length (mkC m2 part) := own_base h.part hlo
    exact ⟨hp.kept hg (own_ne' hp h.out (by decide)), fun k hk => Nat.lt_of_lt_of_le (hp.lt k hk).2 hg.size⟩
theorem RS.fls {w1 wx : World} {vo : Value} {vs : List Value} {fs : List (List UInt8)} {vp : Value} {part : List UInt8} {B : Nat} (h : RS w1 wx vo vs fs vp part B) : FLs m2 wx vs fs :=
  ⟨h.len, fun j h1 h2 => ML.of_own (h.els j h1 h2).1⟩
/-- the part is thrown away -/
theorem RS.drop {w1 wx : World} {vo : Value} {vs : List Value} {fs : List (List UInt8)} {vp : Value} {part : List UInt8} {B : Nat} (h : RS w1 wx vo vs fs vp part B) : RS w1 wx vo vs fs (.slice none 0 0) [] B :=
  ⟨h.out, h.len, h.els, World.ownsRow_nil _ _ _ _, h.lo, h.hi, h.below⟩

end Go.Proofs.YtbgmjmooifjhjaaDoor
