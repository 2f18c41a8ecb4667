/- TopJoined: the fields of a line. -/
import Derived.Test.YtppnhdcnjbjibaaGreatDoorTjCmp
import Derived.Test.YtppnhdcnjbjibaaGreatDoorTjBld
import Derived.Deep.AppendLies
import Derived.Deep.OwnRows
namespace Go.Proofs.YtppnhdcnjbjibaaGreatDoor
open Go.RowKit

def spC (l : List (Nat × Nat)) : List Value := l.flatMap fun b => [.int .i64 (b.1 : Int), .int .i64 (b.2 : Int)]
theorem spC_len (l : List (Nat × Nat)) : (spC l).length = l.length * 2 := by
  induction l with
  | nil => rfl
  | cons b r ih => simp only [spC, List.flatMap_cons, List.length_append, List.length_cons, List.length_nil] at *; omega
theorem spanInfo : (Tryz.prog.info? 155).map (fun i => (i.zero, i.size, i.bytes)) = some (some (.agg #[.int .i64 0, .int .i64 0]), 2, 16) := by kernel_rfl
/-- the spans that were found; the first one is the first field -/
structure SpO (w0 : World) (vo : Value) (l : List (Nat × Nat)) (wx : World) : Prop where
  own : wx.ownsRow w0.heap.size 155 2 vo l.length (spC l)
  bel : Below w0.heap.size w0 wx
/-- behind so many bytes: where the field begins, and what was found -/
def SpI (s : List UInt8) (k fr : Nat) (l : List (Nat × Nat)) : Prop := (l = [] ∧ fr = 0 ∧ ∀ j (h : j < s.length), j < k → s[j] ≠ 44) ∨ (∃ r, l = (0, (fldL s).length) :: r)
theorem fld_at {s : List UInt8} {k : Nat} (hk : k < s.length) (h : ∀ j (h : j < s.length), j < k → s[j] ≠ 44) (hc : s[k] = 44) : (fldL s).length = k := by
  have e : s = s.take k ++ 44 :: s.drop (k + 1) := by
    rw [← hc, ← List.drop_eq_getElem_cons hk, List.take_append_drop]
  unfold fldL
  rw [e, List.takeWhile_append_of_pos (fun x hx => ?_), List.takeWhile_cons_of_neg (by simp), List.append_nil, List.length_take]
  · omega
  · obtain ⟨j, hj, rfl⟩ := List.mem_iff_getElem.1 hx
    rw [List.length_take] at hj
    rw [List.getElem_take]
    exact bne_iff_ne.2 (h j (by omega) (by omega))
theorem fld_all {s : List UInt8} (h : ∀ j (h : j < s.length), j < s.length → s[j] ≠ 44) : (fldL s).length = s.length := by
  unfold fldL
  have h1 := List.takeWhile_append_of_pos (p := fun x : UInt8 => x != 44) (l₁ := s) (l₂ := []) (fun x hx => by
    obtain ⟨j, hj, rfl⟩ := List.mem_iff_getElem.1 hx
    exact bne_iff_ne.2 (h j hj hj))
  rw [List.append_nil] at h1
  rw [h1]
  simp
theorem SpI.hit {s : List UInt8} {k f : Nat} {l : List (Nat × Nat)} (h : SpI s k f l) (hk : k < s.length) (hc : s[k] = 44) : SpI s (k + 1) (k + 1) (l ++ [(f, k)]) := by
  rcases h with ⟨rfl, rfl, h⟩ | ⟨r, rfl⟩
  · exact .inr ⟨[], by rw [fld_at hk h hc]; rfl⟩
  · exact .inr ⟨r ++ [(f, k)], rfl⟩
theorem SpI.miss {s : List UInt8} {k f : Nat} {l : List (Nat × Nat)} (h : SpI s k f l) (hk : k < s.length) (hc : s[k] ≠ 44) : SpI s (k + 1) f l := by
  rcases h with ⟨rfl, rfl, h⟩ | ⟨r, rfl⟩
  · refine .inl ⟨rfl, rfl, fun j hj hjk => ?_⟩
    by_cases e : j = k
    · subst e; exact hc
    · exact h j hj (by omega)
  · exact .inr ⟨r, rfl⟩
theorem SpI.done {s : List UInt8} {f : Nat} {l : List (Nat × Nat)} (h : SpI s s.length f l) : ∃ r, l ++ [(f, s.length)] = (0, (fldL s).length) :: r := by
  rcases h with ⟨rfl, rfl, h⟩ | ⟨r, rfl⟩
  · exact ⟨[], by rw [fld_all h]; rfl⟩
  · exact ⟨r ++ [(f, s.length)], rfl⟩
theorem new_row (w : World) (us : List Value) (t : TypeId) : ∀ j z, us[j]? = some z → (w.alloc (.cells us.toArray t)).cell? ((⟨w.heap.size, 0, none⟩ : Addr).add j) = some z := fun j z hz => by
  have hh := heap_alloc_new w (.cells us.toArray t)
  rw [WideShapes.add_plain]
  unfold World.cell?
  dsimp only
  rw [hh]
  dsimp only
  rw [Nat.zero_add]
  simpa using hz
set_option maxRecDepth 100000 in
set_option maxHeartbeats 3200000 in
theorem fields_any (s sep : ByteArray) (hsep : sep = ⟨#[44]⟩) (w : World) (hs : s.size ≤ 200) :
    Calls Tryz.prog 110 #[.string s, .string sep] w fun e w' => ∃ A n c b off, e = .returned (.slice A n c) ∧ A = some ⟨b, off, none⟩ ∧ 0 < n ∧ b < w'.heap.size ∧ w'.cell? ⟨b, off, none⟩ = some (.int .i64 0) ∧ w'.cell? ⟨b, off + 1, none⟩ = some (.int .i64 ((fldL (bl s)).length : Int)) ∧ Below w.heap.size w w' := by
  have e1 : (sep.toList == []) = false := by rw [hsep, ByteArray.toList_eq]; rfl
  have e2 : sep.size = 1 := by rw [hsep]; rfl
  have HSEP := Lib.hid hsep
  clear hsep
  go_enter Tryz.func110, Tryz.ntmps110
  go_wp2_with fail
  go_loopw [5, 6, 10] (fun vo fr i wr => ∃ (k f : Nat) (l : List (Nat × Nat)), k ≤ s.size ∧ i = .int .i64 (k : Int) ∧ fr = .int .i64 (f : Int) ∧ Hid (f ≤ k) ∧ Hid (l.length ≤ k) ∧ Hid (SpI (bl s) k f l) ∧ Hid (SpO w vo l wr)) (fun _ _ i _ => s.size - (intOf i).toNat)
  case atStart => exact ⟨0, 0, [], Nat.zero_le _, rfl, rfl, Lib.hid (Nat.le_refl _), Lib.hid (Nat.le_refl _), Lib.hid (.inl ⟨rfl, rfl, fun _ _ h => absurd h (Nat.not_lt_zero _)⟩), Lib.hid ⟨World.ownsRow_nil _ _ _ _, Below.refl _ _⟩⟩
  case round =>
    obtain ⟨k, f, l, hk, rfl, rfl, HF, HLN, HI, HO⟩ := hrel
    by_cases hlt : k < s.size
    · have hltz : (k : Int) < (s.size : Int) := by omega
      have hk0 : 0 ≤ (k : Int) := by omega
      have hk1 : IntKind.i64.wrap ((k : Int) + 1) = ((k + 1 : Nat) : Int) := IntWalk.i64_in _ (by omega)
      go_upto_region 9 with fail
      have hs0 : (sep[0]'(by omega)).toNat = 44 := by
        have := HSEP.out
        subst this
        rfl
      have hz0 : (0 : Int) < (sep.size : Int) := by omega
      obtain ⟨x, hx⟩ : ∃ x : Nat, s[k].toNat = x := ⟨_, rfl⟩
      have HX : Hid (x = 44 ↔ (bl s)[k]'(by rw [bl_size]; exact hlt) = 44) := Lib.hid (by
        rw [← hx]
        show s[k].toNat = 44 ↔ s[k] = 44
        exact ⟨fun h => UInt8.toNat_inj.1 h, fun h => by rw [h]; rfl⟩)
      go_cut [41] from 41 to 51 (fun s41 wx => ∃ bb : Bool, s41 = .bool bb ∧ Hid (bb = true ↔ x = 44) ∧ Hid (Below wr.heap.size wr wx))
      case first =>
        by_cases h44 : x = 44
        · subst h44
          go_wp2_with fail
          go_quiet (fail)
          go_wp2_with fail
          go_meet
          exact ⟨true, rfl, Lib.hid (by simp), Lib.hid (below_drewN (Below.refl _ _) _)⟩
        · have hxb : ((x : Int) == 44) = false := beq_eq_false_iff_ne.2 (by omega)
          go_wp2_with fail
          go_quiet (fail)
          go_wp2_with fail
          go_meet
          exact ⟨false, rfl, Lib.hid (by simpa using h44), Lib.hid (below_drewN (Below.refl _ _) _)⟩
      case rest =>
        obtain ⟨bb, rfl, HBB, HBW⟩ := hcut
        have HO2 : Hid (SpO w u5 l wc) := Lib.hid ⟨HO.out.own.kept (row := none) ⟨HBW.out.os, HBW.out.tape, HBW.out.output, HBW.out.size, fun k hk _ => HBW.out.block k hk⟩ (Classical.em _), HO.out.bel.trans (HBW.out.mono HO.out.bel.size)⟩
        obtain ⟨A, n, c, hvo⟩ : ∃ A n c, u5 = .slice A n c := by
          obtain ⟨A, c, e⟩ := own_form HO.out.own
          exact ⟨A, _, c, e⟩
        subst hvo
        clear hx hs0 hz0 HO HBW
        cases bb with
        | true =>
          have h44 := HBB.out.1 rfl
          have HI2 := Lib.hid (HI.out.hit (by rw [bl_size]; exact hlt) (HX.out.1 h44))
          obtain ⟨i0, hi0, hz1, hz2, hz3⟩ := info_parts spanInfo
          have HOa := Lib.hid (HO2.out.own.alloc (.cells #[.int .i64 (f : Int), .int .i64 (k : Int)] 155))
          have HN := Lib.hid (new_row wc [.int .i64 (f : Int), .int .i64 (k : Int)] 155)
          have hB := HO2.out.bel.size
          have hln := HLN.out
          clear h44 HX HBB
          go_wp2_with (at_builtin; refine wpList_append_own _ rfl _ _ 152 rfl w.heap.size 155 i0 (.agg #[.int .i64 0, .int .i64 0]) 2 16 Tryz.underlying152 hi0 hz1 hz2 hz3 rfl (by decide) _ l.length _ rfl HOa.out ⟨wc.heap.size, 0, none⟩ 1 1 [.int .i64 (f : Int), .int .i64 (k : Int)] rfl rfl HN.out (fun u hu => by simp at hu; rcases hu with rfl | rfl <;> rfl) ?c3 ?c4 ?c5 ?_)
          case c3 => unfold maxLen; omega
          case c4 => omega
          case c5 => simp; omega
          intro v6 w6 hown6 hg6 _
          have HO6 : Hid (SpO w v6 (l ++ [(f, k)]) w6) := Lib.hid ⟨by
            have e : spC (l ++ [(f, k)]) = spC l ++ [.int .i64 (f : Int), .int .i64 (k : Int)] := by simp [spC]
            rw [e, List.length_append]
            exact hown6, (HO2.out.bel.alloc hB _).grown hg6 (by simp; omega) (fun g hg => (HOa.out.lt g hg).1)⟩
          obtain ⟨A7, c7, rfl⟩ := own_form hown6
          clear hown6 hg6 hi0 hz1 hz2 hz3
          have HL6 := Lib.hid (show (l ++ [(f, k)]).length ≤ k + 1 by rw [List.length_append]; simp; omega)
          go_wp2_with fail
          exact ⟨⟨k + 1, k + 1, l ++ [(f, k)], by omega, by simp, by simp, Lib.hid (Nat.le_refl _), HL6, HI2, HO6⟩, by simp [intOf]; omega⟩
        | false =>
          have HI2 := Lib.hid (HI.out.miss (by rw [bl_size]; exact hlt) (fun e => by have := HBB.out.2 (HX.out.2 e); cases this))
          have hf := HF.out
          have hln := HLN.out
          clear HX HBB HI
          go_wp2_with fail
          exact ⟨⟨k + 1, f, l, by omega, by simp, rfl, Lib.hid (by omega), Lib.hid (by omega), HI2, HO2⟩, by simp [intOf]; omega⟩
    · obtain rfl : k = s.size := by omega
      obtain ⟨A, n, c, hvo⟩ : ∃ A n c, u5 = .slice A n c := by
        obtain ⟨A, c, e⟩ := own_form HO.out.own
        exact ⟨A, _, c, e⟩
      subst hvo
      obtain ⟨i0, hi0, hz1, hz2, hz3⟩ := info_parts spanInfo
      have HOa := Lib.hid (HO.out.own.alloc (.cells #[.int .i64 (f : Int), .int .i64 (s.size : Int)] 155))
      have HN := Lib.hid (new_row wr [.int .i64 (f : Int), .int .i64 (s.size : Int)] 155)
      have hB := HO.out.bel.size
      have hln := HLN.out
      have HI2 := Lib.hid (show ∃ r, l ++ [(f, s.size)] = (0, (fldL (bl s)).length) :: r from by
        have := HI.out
        rw [← bl_size] at this ⊢
        exact this.done)
      clear HI
      go_wp2_with (at_builtin; refine wpList_append_own _ rfl _ _ 152 rfl w.heap.size 155 i0 (.agg #[.int .i64 0, .int .i64 0]) 2 16 Tryz.underlying152 hi0 hz1 hz2 hz3 rfl (by decide) _ l.length _ rfl HOa.out ⟨wr.heap.size, 0, none⟩ 1 1 [.int .i64 (f : Int), .int .i64 (s.size : Int)] rfl rfl HN.out (fun u hu => by simp at hu; rcases hu with rfl | rfl <;> rfl) ?c3 ?c4 ?c5 ?_)
      case c3 => unfold maxLen; omega
      case c4 => omega
      case c5 => simp; omega
      intro v6 w6 hown6 hg6 _
      have HB6 := Lib.hid ((HO.out.bel.alloc hB _).grown hg6 (by simp; omega) (fun g hg => (HOa.out.lt g hg).1))
      obtain ⟨r, hr⟩ := HI2.out
      have hsp : spC l ++ [.int .i64 (f : Int), .int .i64 (s.size : Int)] = .int .i64 0 :: .int .i64 ((fldL (bl s)).length : Int) :: spC r := by
        have e : spC (l ++ [(f, s.size)]) = spC l ++ [.int .i64 (f : Int), .int .i64 (s.size : Int)] := by simp [spC]
        rw [← e, hr]
        rfl
      rw [hsp] at hown6
      rcases hown6.2 with ⟨_, h0⟩ | ⟨g, cap, cur, rfl, _, hh, hcap, _, _, ht⟩
      · cases h0
      have HC := Lib.hid (And.intro (hown6.cells (g := g) rfl 0 _ rfl) (And.intro (hown6.cells (g := g) rfl 1 _ rfl) (hown6.lt g rfl).2))
      clear hown6 hg6 hi0 hz1 hz2 hz3 hh hcap ht hsp hr
      go_wp2_with fail
      go_ret
      obtain ⟨q0, q1, q2⟩ := HC.out
      rw [WideShapes.add_plain] at q0 q1
      exact ⟨_, _, _, g, 0, rfl, rfl, by omega, q2, q0, by simpa using q1, HB6.out⟩
end Go.Proofs.YtppnhdcnjbjibaaGreatDoor
