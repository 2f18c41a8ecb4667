/- TopJoined: the lines of a text, whether it is large. (Out of XLines.) -/
import Derived.Test.YtppnhdcnjbjibaaGreatDoorTjStrs
import Derived.Test.YtppnhdcnjbjibaaGreatDoorTjOrd
import Derived.Lib.SplitLaws
import Derived.Lib.CutLaws
namespace Go.Proofs.YtppnhdcnjbjibaaGreatDoor
open Go.RowKit

/-- the package-level variable of strings.Index holds a number -/
def MX (w : World) : Prop := ∃ m, w.cell? ⟨0, 0, none⟩ = some (.int .i64 m)
theorem MX.keep {w w' : World} (h : MX w) (hb : Below w.heap.size w w') : MX w' := by
  obtain ⟨m, h⟩ := h
  exact ⟨m, (hb.cell (p := ⟨0, 0, none⟩) (World.block_lt_of_cell? w _ h)).trans h⟩
theorem mx_of {w : World} (h : w.ShapedOpen Tryz.prog) : MX w := Tryz.laysM146.s1_3 w h

def nl : ByteArray := ⟨#[10]⟩
def trimB (s : ByteArray) : ByteArray := ⟨(Lib.trimSuffix s.data.toList [10]).toArray⟩
def linesL (s : ByteArray) : List ByteArray := if s.toList.isEmpty then [] else Lib.splitB nl 0 (Lib.countB (trimB s) nl) (trimB s)

theorem trimB_size (s : ByteArray) : (trimB s).size ≤ s.size := by
  rw [← size_toList, ← size_toList]
  show (Lib.trimSuffix s.data.toList [10]).length ≤ _
  unfold Lib.trimSuffix
  split
  · rw [List.length_take]; omega
  · omega
theorem splitB_size (sep : ByteArray) : ∀ (k : Nat) (s : ByteArray), ∀ p ∈ Lib.splitB sep 0 k s, p.size ≤ s.size
  | 0, s, p, hp => by
    rw [Lib.splitB_zero] at hp
    rw [show p = s from by simpa using hp]
    exact Nat.le_refl _
  | k + 1, s, p, hp => by
    by_cases hi : Lib.indexB s sep = -1
    · rw [Lib.splitB_miss _ _ _ _ hi] at hp
      rw [show p = s from by simpa using hp]
      exact Nat.le_refl _
    · obtain ⟨i, hi', _⟩ := (Lib.indexB_cases s sep).resolve_left hi
      rw [Lib.splitB_hit _ _ _ _ i hi'] at hp
      rcases List.mem_cons.1 hp with rfl | hp
      · rw [ByteArray.size_extract]; omega
      · exact Nat.le_trans (splitB_size sep k _ p hp) (by rw [ByteArray.size_extract]; omega)
theorem lines_size (s : ByteArray) : ∀ p ∈ linesL s, p.size ≤ s.size := by
  unfold linesL
  split
  · intro p hp; cases hp
  · exact fun p hp => Nat.le_trans (splitB_size _ _ _ p hp) (trimB_size s)
theorem lines_len (s : ByteArray) : (linesL s).length ≤ s.size + 1 := by
  unfold linesL
  split
  · simp
  · exact Nat.le_trans (Lib.splitB_length_le _ _ _ _) (by have := Lib.countB_le nl (by decide) _ (trimB s) (Nat.le_refl _); have := trimB_size s; omega)

/-- a slice of these texts was handed back -/
def Gave (w : World) (l : List ByteArray) (e : Ending) (w' : World) : Prop := ∃ v, e = .returned v ∧ SL w' v l ∧ Below w.heap.size w w'

theorem split_any (s : ByteArray) (w : World) (hx : MX w) (hs : s.size < 4294967281) :
    Calls Tryz.prog 18 #[.string s, .string nl] w (Gave w (Lib.splitB nl 0 (Lib.countB s nl) s)) := by
  obtain ⟨m, hm⟩ := hx
  refine (Tryz.strings_Split s nl m w hs hm (by decide)).mono fun e w' ⟨he, hw⟩ => ⟨_, he, ?_, by rw [hw]; exact (Below.refl _ w).alloc (Nat.le_refl _) _⟩
  have hl := Lib.splitB_all nl (by decide) 0 _ s rfl
  subst hw
  refine ⟨some ⟨w.heap.size, 0, none⟩, Lib.countB s nl + 1, by rw [hl], by rw [hl]; omega, fun _ => ⟨w.heap.size, 0, rfl, by simp, fun j hj => ?_⟩⟩
  rw [World.cell?_alloc_at _ _ _ _ rfl, Nat.zero_add]
  simp [hj]

set_option maxHeartbeats 800000 in
theorem lines_any (s : ByteArray) (w : World) (hx : MX w) (hs : s.size < 4294967281) :
    Calls Tryz.prog 15 #[.string s] w (Gave w (linesL s)) := by
  have hT := Lib.hid (fun W => Tryz.strings_TrimSuffix s nl W (by omega))
  have hS := Lib.hid (split_any (trimB s) w hx (by have := trimB_size s; omega))
  cases h0 : s.toList.isEmpty
  · have hfin := Lib.hid (show linesL s = Lib.splitB nl 0 (Lib.countB (trimB s) nl) (trimB s) by unfold linesL; rw [h0]; rfl)
    go_enter Tryz.func15, Tryz.ntmps15
    go_wp2_with fail
    refine (hT.out _).mono ?_
    rintro e w1 ⟨he, hw⟩
    subst he; subst hw
    go_wp2_with fail
    refine hS.out.mono ?_
    rintro e w1 ⟨v, rfl, hv, hb⟩
    have HV := Lib.hid hv
    clear hv
    go_wp2
    go_ret
    exact ⟨v, rfl, by rw [hfin.out]; exact HV.out, hb⟩
  · have hfin := Lib.hid (show linesL s = [] by unfold linesL; rw [h0]; rfl)
    go_enter Tryz.func15, Tryz.ntmps15
    go_wp2
    go_ret
    exact ⟨_, rfl, by rw [hfin.out]; exact ⟨none, 0, rfl, Nat.le_refl _, fun h => by simp at h⟩, Below.refl _ _⟩

def largeB (s : ByteArray) : Bool := decide (65536 < s.size) || decide (4096 < (linesL s).length)

set_option maxHeartbeats 800000 in
theorem large_any (s : ByteArray) (w : World) (hx : MX w) (hs : s.size < 4294967281) :
    Calls Tryz.prog 43 #[.string s] w fun e w' => e = .returned (.bool (largeB s)) ∧ Below w.heap.size w w' := by
  have hL := Lib.hid (lines_any s w hx hs)
  have hn := lines_len s
  by_cases h1 : 65536 < s.size
  · have hfin := Lib.hid (show largeB s = true by simp [largeB, h1])
    have h2 : decide ((65536 : Int) < s.size) = true := by rw [decide_eq_true_iff]; omega
    go_enter Tryz.func43, Tryz.ntmps43
    go_wp2
    go_ret
    exact ⟨ret_bool hfin.out.symm, Below.refl _ _⟩
  · have h2 : decide ((65536 : Int) < s.size) = false := by rw [decide_eq_false_iff_not]; omega
    have hfin := Lib.hid (show largeB s = decide ((4096 : Int) < (linesL s).length) by unfold largeB; rw [decide_eq_false h1, Bool.false_or]; exact decide_eq_decide.2 (by omega))
    generalize linesL s = l at *
    go_enter Tryz.func43, Tryz.ntmps43
    go_wp2_with fail
    refine hL.out.mono ?_
    rintro e w1 ⟨v, rfl, ⟨A, c, rfl, _, _⟩, hb⟩
    go_wp2
    go_ret
    exact ⟨ret_bool hfin.out.symm, hb⟩

set_option maxHeartbeats 800000 in
theorem sized_list (l : List ByteArray) (v : Value) (w : World) (hv : SL w v l) (hn : l.length ≤ 1000) (hx : MX w) (hs : ∀ s ∈ l, s.size < 4294967281) (hl : l.any largeB = false) :
    Calls Tryz.prog 14 #[v] w fun e w' => e = .returned (.int .i64 0) ∧ Below w.heap.size w w' := by
  have hc := Lib.hid (containsFunc_any 43 (enters_of Tryz.func43 (by kernel_rfl) rfl) largeB l v w hv (by omega) (fun x h W hb => large_any x W (hx.keep hb) (hs x h)))
  clear hv
  rw [hl] at hc
  go_enter Tryz.func14, Tryz.ntmps14
  go_wp2_with fail
  refine hc.out.mono ?_
  rintro e w1 ⟨rfl, hb⟩
  go_wp2
  go_ret
  exact ⟨rfl, hb⟩
theorem trim_txt (L : List (List UInt8)) (hne : L ≠ []) : trimB (toB (txtL L)) = toB (Lib.join L [10]) := by
  unfold trimB
  rw [show (toB (txtL L)).data.toList = txtL L from bl_toB _, txtL_join L hne]
  have h : Lib.hasSuffix (Lib.join L [10] ++ [10]) [10] = true := by
    unfold Lib.hasSuffix
    rw [List.isSuffixOf_iff_suffix]
    exact ⟨_, rfl⟩
  unfold Lib.trimSuffix
  rw [if_pos h]
  simp [toB]
/-- the lines of a text of lines -/
theorem lines_txt (L : List (List UInt8)) (h : ∀ x ∈ L, (10 : UInt8) ∉ x) : linesL (toB (txtL L)) = L.map toB := by
  unfold linesL
  by_cases hne : L = []
  · subst hne
    rw [if_pos (by rw [ByteArray.toList_eq]; rfl)]
    rfl
  · have hc : (toB (txtL L)).toList.isEmpty = false := by
      rw [ByteArray.toList_eq, show (toB (txtL L)).data.toList = txtL L from bl_toB _, txtL_join L hne]
      simp
    rw [hc, if_neg (by decide), trim_txt L hne]
    exact (splitB_join 10 L hne h).1
/-- a text of lines that is not large -/
theorem not_large (L : List (List UInt8)) (h : ∀ x ∈ L, (10 : UInt8) ∉ x) (h1 : L.length ≤ 4096) (h2 : (txtL L).length ≤ 65536) : largeB (toB (txtL L)) = false := by
  unfold largeB
  rw [lines_txt L h, List.length_map, toB_size]
  simp
  omega
end Go.Proofs.YtppnhdcnjbjibaaGreatDoor
