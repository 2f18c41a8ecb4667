/- SplitMatches, the program: a text marked; marked bytes made plain. -/
import Derived.Test.YtbgmjmooifjhjaaDoorSplitC
import Derived.Laws.IdiomStrings
namespace Go.Proofs.YtbgmjmooifjhjaaDoor
open Go.RowKit

theorem two_cells' (w : World) (x y : Value) (t : TypeId) : (w.alloc (.cells #[x, y] t)).cell? ⟨w.heap.size, 0, none⟩ = some x ∧ (w.alloc (.cells #[x, y] t)).cell? ⟨w.heap.size, 1, none⟩ = some y := by
  have hh := heap_alloc_new w (.cells #[x, y] t)
  unfold World.cell?
  dsimp only
  rw [hh]
  exact ⟨rfl, rfl⟩
theorem BU.keep {w w' : World} {B b : Nat} {l : List UInt8} (h : BU w B b l) (hb : Below w.heap.size w w') : BU w' B b l := by
  have hk : ∀ p, Lib.BuilderAt 97 5 B b p (bytesV l) w → Lib.BuilderAt 97 5 B b p (bytesV l) w' := fun p hh => by
    obtain ⟨hB, v, hk, ho, hne⟩ := hh
    have hlt : b < w.heap.size := (Array.getElem?_eq_some_iff.1 hk).1
    exact ⟨hB, v, (hb.block b hlt).trans hk, ho.kept (row := none) ⟨hb.os, hb.tape, hb.output, hb.size, fun k hk _ => hb.block k hk⟩ (by cases v.ownBlock <;> simp), hne⟩
  rcases h with h | h
  · exact .inl (hk _ h)
  · exact .inr (hk _ h)
theorem BU.new (w : World) : BU (w.alloc (.cells #[.pointer none, .slice none 0 0] 97)) w.heap.size w.heap.size [] :=
  .inl ⟨Nat.le_refl _, .slice none 0 0, heap_alloc_new w _, World.ownsRow_nil _ _ _ _, by simp [Value.ownBlock]⟩

set_option maxRecDepth 100000 in
set_option maxHeartbeats 1600000 in
theorem plain_any (T : List UInt8) (v : Value) (w : World) (hv : ML m0 w v T) (hT : T.length ≤ 1000000000) :
    Calls Tryd.prog 21 #[v] w fun e w' => e = .returned (.string ⟨T.toArray⟩) ∧ Below w.heap.size w w' := by
  obtain ⟨A, c, rfl, hc, hz⟩ := id hv
  clear hz
  have HV := Lib.hid hv
  clear hv
  go_enter Tryd.func21, Tryd.ntmps21
  go_wp2_with fail
  have HU0 := Lib.hid (BU.new w)
  have HB0 := Lib.hid ((Below.refl _ w).alloc (Nat.le_refl _) (.cells #[.pointer none, .slice none 0 0] 97))
  generalize w.alloc (.cells #[.pointer none, .slice none 0 0] 97) = w1 at *
  go_loopw [8] (fun i wr => ∃ k : Nat, i = .int .i64 (k : Int) ∧ k ≤ T.length ∧ Hid (BU wr w.heap.size w.heap.size (T.take k)) ∧ Hid (Below w.heap.size w wr)) (fun i _ => T.length - (intOf i).toNat)
  case atStart => exact ⟨0, rfl, Nat.zero_le _, by rw [List.take_zero]; exact HU0.out, HB0.out⟩
  case round =>
    obtain ⟨k, rfl, hk, HU, HB⟩ := hrel
    by_cases hlt : k < T.length
    · obtain ⟨b, off, hA, hb, h1, h2⟩ := (HV.out.keep HB.out).at hlt
      have hst : T.take k ++ [T[k]] = T.take (k + 1) := by rw [List.take_add_one, List.getElem?_eq_getElem hlt]; rfl
      have HST := Lib.hid hst
      clear hst
      generalize T[k] = ch at *
      go_wp2_with fail
      refine (wb_any w.heap.size w.heap.size (T.take k) ch _ (HU.out.keep ((Below.refl _ wr).alloc (Nat.le_refl _) _)) (by rw [List.length_take]; omega) (by have := HB.out.size; simp; omega)).mono ?_
      rintro e w3 ⟨rfl, hu3, hb3⟩
      rw [HST.out] at hu3
      have HU3 := Lib.hid hu3
      have HB3 := Lib.hid ((HB.out.alloc HB.out.size _).trans hb3)
      clear hu3 hb3 h1 h2 hb hA
      go_wp2_with fail
      go_roundw
      case rel => exact ⟨k + 1, by go_num, by omega, HU3.out, HB3.out⟩
      case measure => simp [intOf]; omega
    · have hkT : k = T.length := by omega
      subst hkT
      have HU2 := HU
      rw [List.take_length] at HU2
      clear HU
      have HS := Lib.hid (fun W (h : BU W w.heap.size w.heap.size T) (hle : w.heap.size ≤ W.heap.size) => Tryd.Builder_String_any_k w.heap.size w.heap.size T W (h.elim (fun x => .inl (Lib.BuilderAtF.of x)) (fun x => .inr (Lib.BuilderAtF.of x))) hle)
      go_wp2_with fail
      refine (HS.out _ HU2.out HB.out.size).mono ?_
      rintro e w3 ⟨rfl, _, hb3, _⟩
      have HBe := Lib.hid (HB.out.trans hb3)
      clear hb3
      go_wp2_with fail
      go_ret
      exact ⟨rfl, HBe.out⟩

theorem cellInfo : (Tryd.prog.info? 90).map (fun i => (i.zero, i.size, i.bytes)) = some (some (.agg #[.int .u8 0, .int .i64 0]), 2, 16) := by kernel_rfl

/-- an own row of marked bytes -/
def MW (e : TypeId) (m : Value) (w1 : World) (vo : Value) (l : List UInt8) (wx : World) : Prop := wx.ownsRow w1.heap.size e 2 vo l.length (mkC m l) ∧ Below w1.heap.size w1 wx
theorem MW.nil (e : TypeId) (m : Value) (w1 : World) : MW e m w1 (.slice none 0 0) [] w1 := ⟨World.ownsRow_nil _ _ _ _, Below.refl _ _⟩
theorem MW.grown {e : TypeId} {m : Value} {w1 wx w' : World} {vo v' : Value} {l : List UInt8} {c : UInt8} (h : MW e m w1 vo l wx) (o : Obj) (hg : (wx.alloc o).grownBy w' vo.ownBlock) (ho : w'.ownsRow w1.heap.size e 2 v' (l.length + 1) (mkC m l ++ [.int .u8 (c.toNat : Int), m])) : MW e m w1 v' (l ++ [c]) w' :=
  ⟨by rw [List.length_append, mkC_app]; exact ho, (h.2.alloc h.2.size o).grown hg (by have := h.2.size; simp; omega) (fun g hg => (h.1.lt g hg).1)⟩
theorem MW.keep {e : TypeId} {m : Value} {w1 wx w' : World} {vo : Value} {l : List UInt8} (h : MW e m w1 vo l wx) (hb : Below wx.heap.size wx w') : MW e m w1 vo l w' :=
  ⟨h.1.kept (row := none) ⟨hb.os, hb.tape, hb.output, hb.size, fun k hk _ => hb.block k hk⟩ (by cases vo.ownBlock <;> simp), h.2.trans (hb.mono h.2.size)⟩
theorem new_two (w : World) (u z : Value) (t : TypeId) : ∀ j y, ([u, z] : List Value)[j]? = some y → (w.alloc (.cells #[u, z] t)).cell? ((⟨w.heap.size, 0, none⟩ : Addr).add j) = some y := fun j y hy => by
  have hh := two_cells' w u z t
  match j, hy with
  | 0, hy => rw [← hy, WideShapes.add_plain]; exact hh.1
  | 1, hy => rw [← hy, WideShapes.add_plain]; exact hh.2
  | j + 2, hy => simp at hy
/-- a new row of bytes -/
theorem bytes_new (w : World) (s : ByteArray) (cap : Nat) (t : TypeId) (fr : Nat × Nat) : ∀ j (h : j < s.data.toList.length), ((w.alloc (.cells (bytesRow s cap) t fr)).drew).cell? ⟨w.heap.size, j, none⟩ = some (.int .u8 (s.data.toList[j].toNat : Int)) := fun j h => by
  have hj : j < s.data.size := by simpa using h
  show World.cell? (w.alloc _) _ = _
  rw [World.cell?_alloc_mark, bytesRow_at s cap j hj, Array.getElem_toList]

set_option maxRecDepth 100000 in
set_option maxHeartbeats 1600000 in
theorem marked_any (s : ByteArray) (w : World) (hs : s.size ≤ 1000000000) :
    Calls Tryd.prog 20 #[.string s, .int .i64 0] w fun e w' => ∃ v, e = .returned v ∧ ML m0 w' v s.data.toList ∧ Below w.heap.size w w' := by
  have kb := fun W => run_bytes_of_string (P := Tryd.prog) W 9 64 5 s Tryd.underlying9 Tryd.underlying64 Tryd.underlying5
  obtain ⟨i0, hi0, hz0, hz1, hz2⟩ := info_parts cellInfo
  go_enter Tryd.func20, Tryd.ntmps20
  go_wp2_with fail
  have HR := Lib.hid (bytes_new w s (grownCap w s.size 0 5) 5 ((bytesRow s (grownCap w s.size 0 5)).size, (bytesRow s (grownCap w s.size 0 5)).size + 1))
  have HB0 := Lib.hid (((Below.refl _ w).alloc (Nat.le_refl _) (.cells (bytesRow s (grownCap w s.size 0 5)) 5 ((bytesRow s (grownCap w s.size 0 5)).size, (bytesRow s (grownCap w s.size 0 5)).size + 1))).drew)
  have hlw : w.heap.size < ((w.alloc (.cells (bytesRow s (grownCap w s.size 0 5)) 5 ((bytesRow s (grownCap w s.size 0 5)).size, (bytesRow s (grownCap w s.size 0 5)).size + 1))).drew).heap.size := by
    show w.heap.size < (w.alloc _).heap.size
    simp
  generalize grownCap w s.size 0 5 = cp at *
  generalize (w.alloc (.cells (bytesRow s cp) 5 ((bytesRow s cp).size, (bytesRow s cp).size + 1))).drew = w2 at *
  have hTn : s.data.toList.length = s.size := size_toList s
  generalize hTT : s.data.toList = T at *
  have HT := Lib.hid hTT
  clear hTT
  generalize s.size = n at *
  subst hTn
  clear kb
  have HLW := Lib.hid hlw
  clear hlw
  go_loopw [5, 11] (fun so si wr => ∃ (vo : Value) (k : Nat), vo = so ∧ si = .int .i64 (k : Int) ∧ k ≤ T.length ∧ Hid (MW 90 m0 w2 vo (T.take k) wr)) (fun _ si _ => T.length - (intOf si).toNat)
  case atStart => exact ⟨_, 0, rfl, rfl, Nat.zero_le _, by rw [List.take_zero]; exact MW.nil _ _ _⟩
  case round =>
    obtain ⟨vo, k, rfl, rfl, hk, HM⟩ := hrel
    by_cases hlt : k < T.length
    · have h1 := (HM.out.2.cell (p := ⟨w.heap.size, k, none⟩) HLW.out).trans (HR.out k hlt)
      have hst : T.take k ++ [T[k]] = T.take (k + 1) := by rw [List.take_add_one, List.getElem?_eq_getElem hlt]; rfl
      have HST := Lib.hid hst
      clear hst
      generalize T[k] = ch at *
      have hlen : (T.take k).length = k := by rw [List.length_take]; omega
      have HOa := Lib.hid (HM.out.1.alloc (.cells #[.int .u8 (ch.toNat : Int), m0] 90))
      have HN := Lib.hid (new_two wr (.int .u8 (ch.toNat : Int)) m0 90)
      go_wp2_with (at_builtin; refine wpList_append_own _ rfl _ _ 57 rfl w2.heap.size 90 i0 (.agg #[.int .u8 0, .int .i64 0]) 2 16 Tryd.underlying57 hi0 hz0 hz1 hz2 rfl (by decide) vo (T.take k).length _ rfl HOa.out ⟨wr.heap.size, 0, none⟩ 1 1 [.int .u8 (ch.toNat : Int), m0] rfl rfl HN.out (fun u hu => by simp at hu; rcases hu with rfl | rfl <;> rfl) ?c3 ?c4 ?c5 ?_)
      case c3 => unfold maxLen; omega
      case c4 => omega
      case c5 => have := HM.out.2.size; simp; omega
      intro v6 w6 hown6 hg6 _
      have hm6 := HM.out.grown (.cells #[.int .u8 (ch.toNat : Int), m0] 90) hg6 (c := ch) (by rw [hlen]; exact hown6)
      rw [HST.out] at hm6
      have HM6 := Lib.hid hm6
      clear hown6 hg6 h1 hm6 hlen
      go_wp2_with fail
      go_roundw
      case rel => exact ⟨v6, k + 1, rfl, by go_num, by omega, HM6.out⟩
      case measure => simp [intOf]; omega
    · have hkT : k = T.length := by omega
      subst hkT
      have HM2 := HM
      rw [List.take_length] at HM2
      clear HM
      go_wp2_with fail
      go_ret
      exact ⟨vo, rfl, by rw [HT.out]; exact ML.of_own HM2.out.1, HB0.out.trans (HM2.out.2.mono HB0.out.size)⟩

theorem break_no (c : UInt8) (w : World) : Calls Tryd.prog 33 #[.agg #[.int .u8 (c.toNat : Int), m0]] w fun e w' => e = .returned (.bool false) ∧ Below w.heap.size w w' := by
  go_enter Tryd.func33, Tryd.ntmps33
  go_wp2
  go_ret
  exact ⟨rfl, (Below.refl _ w).alloc (Nat.le_refl _) _⟩

set_option maxRecDepth 100000 in
set_option maxHeartbeats 1600000 in
theorem noBreak_any (T : List UInt8) (v : Value) (w : World) (hv : ML m0 w v T) (hT : T.length ≤ 1000000000) :
    Calls Tryd.prog 32 #[v, .func (.func 33) #[] #[]] w fun e w' => e = .returned (.int .i64 (-1)) ∧ Below w.heap.size w w' := by
  obtain ⟨A, c, rfl, hc, hz⟩ := id hv
  clear hz
  have HV := Lib.hid hv
  clear hv
  go_enter Tryd.func32, Tryd.ntmps32
  go_wp2_with fail
  go_loopw [8] (fun i wr => ∃ k : Nat, i = .int .i64 (k : Int) ∧ k ≤ T.length ∧ Hid (Below w.heap.size w wr)) (fun i _ => T.length - (intOf i).toNat)
  case atStart => exact ⟨0, rfl, Nat.zero_le _, Below.refl _ _⟩
  case round =>
    obtain ⟨k, rfl, hk, HB⟩ := hrel
    by_cases hlt : k < T.length
    · obtain ⟨b, off, hA, hb, h1, h2⟩ := (HV.out.keep HB.out).at hlt
      generalize T[k] = ch at *
      go_wp2_with fail
      refine (break_no ch _).mono ?_
      rintro e w3 ⟨rfl, hb3⟩
      have HB3 := Lib.hid (HB.out.trans (hb3.mono HB.out.size))
      clear hb3 h1 h2 hb hA
      go_wp2_with fail
      go_roundw
      case rel => exact ⟨k + 1, by go_num, by omega, HB3.out⟩
      case measure => simp [intOf]; omega
    · go_wp2_with fail
      go_ret
      exact ⟨rfl, HB.out⟩

end Go.Proofs.YtbgmjmooifjhjaaDoor
