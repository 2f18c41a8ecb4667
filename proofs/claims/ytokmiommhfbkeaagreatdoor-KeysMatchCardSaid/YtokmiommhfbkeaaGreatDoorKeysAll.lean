/- KeysMatch, the walk: the law answers true for all keys and every history. -/
import Derived.Test.YtokmiommhfbkeaaGreatDoorEditE
import Derived.Test.YtokmiommhfbkeaaGreatDoorBase
import Derived.IntWalk
import Derived.Test.YtokmiommhfbkeaaGreatDoorRefU
import Derived.Test.YtokmiommhfbkeaaGreatDoorPressAny
import Derived.Deep.RegionHeld3
import Derived.Deep.DeepCutAuto
namespace Go.Proofs.YtokmiommhfbkeaaGreatDoor
open Go.RowKit

/-- no byte of a text is zero or a line feed -/
def Cl (s : ByteArray) : Prop := ∀ c ∈ s.data.toList, c ≠ 0 ∧ c ≠ 10
theorem zn_has (c : UInt8) : zn.data.toList.contains c = (c == 0 || c == 10) := by
  rw [show zn.data.toList = [0, 10] from rfl, Bool.eq_iff_iff]; simp
theorem indexAny_neg (l cs : List UInt8) : Lib.indexAny l cs < 0 ↔ ∀ c ∈ l, cs.contains c = false := by
  induction l with
  | nil => simp [Lib.indexAny]
  | cons b r ih =>
    have hge := Lib.indexAny_ge cs r
    cases hb : cs.contains b
    · rw [Lib.indexAny, if_neg (by rw [hb]; exact Bool.false_ne_true)]
      constructor
      · intro h c hc
        rcases List.mem_cons.1 hc with rfl | hc
        · exact hb
        · refine ih.1 ?_ c hc
          split at h
          · rename_i he; have := beq_iff_eq.1 he; omega
          · omega
      · intro h
        have := ih.2 fun c hc => h c (List.mem_cons_of_mem _ hc)
        rw [if_pos (by rw [beq_iff_eq]; omega)]; omega
    · rw [Lib.indexAny, if_pos hb]
      constructor
      · intro h; omega
      · intro h; have := h b (by simp); rw [hb] at this; cases this
theorem cleanB_iff (l : List UInt8) : cleanB l = true ↔ ∀ c ∈ l, c ≠ 0 ∧ c ≠ 10 := by
  unfold cleanB
  rw [decide_eq_true_iff, indexAny_neg]
  constructor
  · intro h c hc
    have := h c hc
    rw [zn_has] at this
    simpa using this
  · intro h c hc
    rw [zn_has]; simpa using h c hc
def LN (s : ByteArray) : Prop := s.size ≤ 1000 ∧ Cl s
theorem lineB_iff (s : ByteArray) : lineB s = true ↔ LN s := by
  unfold lineB LN Cl
  rw [Bool.and_eq_true, decide_eq_true_iff, cleanB_iff]
theorem Cl.cut {s : ByteArray} (h : Cl s) (i j : Nat) : Cl (s.extract i j) := fun c hc => by
  rw [Lib.extract_data] at hc
  exact h c (List.mem_of_mem_drop (List.mem_of_mem_take hc))
theorem Cl.app {s t : ByteArray} (h : Cl s) (k : Cl t) : Cl (s ++ t) := fun c hc => by
  rw [ByteArray.data_append, Array.toList_append, List.mem_append] at hc
  rcases hc with hc | hc
  · exact h c hc
  · exact k c hc
theorem size_ex (s : ByteArray) (i j : Nat) : (s.extract i j).size = min j s.size - i := ByteArray.size_extract

/-- what a key turns of a line stays good -/
def GD (d : ED) : Prop := d.a ≤ d.text.size ∧ LN d.text ∧ LN d.killed
theorem insD_good {d : ED} {s : ByteArray} (h : GD d) (hs : Cl s) : GD (insD s d) := by
  obtain ⟨h1, ⟨h2, h3⟩, h4⟩ := h
  unfold insD
  split
  · rename_i hle
    refine ⟨?_, ⟨?_, ((h3.cut _ _).app hs).app (h3.cut _ _)⟩, h4⟩
    · simp only [ByteArray.size_append, size_ex]; omega
    · simp only [ByteArray.size_append, size_ex]; omega
  · exact ⟨h1, ⟨h2, h3⟩, h4⟩
theorem cutT_good {t : ByteArray} {i j : Nat} (h : LN t) (hij : i ≤ j) (hj : j ≤ t.size) : LN (cutT t i j) ∧ i ≤ (cutT t i j).size := by
  obtain ⟨h2, h3⟩ := h
  unfold cutT
  refine ⟨⟨?_, (h3.cut _ _).app (h3.cut _ _)⟩, ?_⟩
  · simp only [ByteArray.size_append, size_ex]; omega
  · simp only [ByteArray.size_append, size_ex]; omega
theorem eraD_good {d : ED} {i j : Nat} (h : GD d) (hij : i ≤ j) (hj : j ≤ d.text.size) : GD (eraD i j d) := by
  have := cutT_good h.2.1 hij hj
  exact ⟨this.2, this.1, h.2.2⟩
theorem keptT_good {k s : ByteArray} (b : Bool) (h : Cl k) (hs : Cl s) : LN (keptT k s b) := by
  unfold keptT
  split
  · exact ⟨by simp only [size_ex, ByteArray.size_append]; omega, (h.app hs).cut _ _⟩
  · exact ⟨by simp only [size_ex, ByteArray.size_append]; omega, (hs.app h).cut _ _⟩
theorem killD_good {d : ED} {i j : Nat} (was : Bool) (h : GD d) (hij : i ≤ j) (hj : j ≤ d.text.size) : GD (killD i j was d) := by
  have hc := cutT_good h.2.1 hij hj
  unfold killD
  split
  · exact h
  · refine ⟨hc.2, hc.1, ?_⟩
    dsimp only
    split
    · exact keptT_good _ h.2.2.2 (h.2.1.2.cut _ _)
    · exact ⟨by rw [size_ex]; have := h.2.1.1; omega, h.2.1.2.cut _ _⟩
theorem swapT_good {t : ByteArray} {k : Nat} (h : LN t) (hk : k + 2 ≤ t.size) : LN (swapT t k) ∧ (swapT t k).size = t.size := by
  obtain ⟨h2, h3⟩ := h
  have hz : (swapT t k).size = t.size := by
    unfold swapT; simp only [ByteArray.size_append, size_ex]; omega
  exact ⟨⟨by omega, (((h3.cut _ _).app (h3.cut _ _)).app (h3.cut _ _)).app (h3.cut _ _)⟩, hz⟩
theorem swapD_good {d : ED} (h : GD d) : GD (swapD d) := by
  obtain ⟨h1, h2, h4⟩ := h
  unfold swapD
  split
  · exact ⟨h1, h2, h4⟩
  · split
    · have := swapT_good (k := d.a - 2) h2 (by omega)
      exact ⟨by rw [this.2]; exact h1, this.1, h4⟩
    · have := swapT_good (k := d.a - 1) h2 (by omega)
      exact ⟨by dsimp only; rw [this.2]; omega, this.1, h4⟩
theorem letter_clean (c : UInt8) (h : letB c = true) : (upC c ≠ 0 ∧ upC c ≠ 10) ∧ (lowC c ≠ 0 ∧ lowC c ≠ 10) := by
  have : ∀ u : Fin 256, letB (UInt8.ofNat u.val) = true → (upC (UInt8.ofNat u.val) ≠ 0 ∧ upC (UInt8.ofNat u.val) ≠ 10) ∧ (lowC (UInt8.ofNat u.val) ≠ 0 ∧ lowC (UInt8.ofNat u.val) ≠ 10) := by decide +kernel
  have h2 := this ⟨c.toNat, c.toNat_lt⟩
  simp only [UInt8.ofNat_toNat] at h2
  exact h2 h
theorem letL_clean (f r : Bool) (l : List UInt8) (h : ∀ c ∈ l, c ≠ 0 ∧ c ≠ 10) : ∀ c ∈ letL f r l, c ≠ 0 ∧ c ≠ 10 := by
  induction l generalizing f with
  | nil => intro c hc; simp [letL] at hc
  | cons b t ih =>
    have hb := h b (by simp)
    have ht : ∀ c ∈ t, c ≠ 0 ∧ c ≠ 10 := fun c hc => h c (List.mem_cons_of_mem _ hc)
    intro c hc
    unfold letL at hc
    split at hc
    · rename_i hl
      rcases List.mem_cons.1 hc with rfl | hc
      · split
        · exact (letter_clean b hl).1
        · exact (letter_clean b hl).2
      · exact ih _ ht c hc
    · rcases List.mem_cons.1 hc with rfl | hc
      · exact hb
      · exact ih _ ht c hc
theorem lettersD_good {d : ED} (kind : Int) (h : GD d) : GD (lettersD kind d) := by
  obtain ⟨h1, ⟨h2, h3⟩, h4⟩ := h
  have hn1 := nextW_ge d.text d.a
  have hn2 := nextW_le d.text d.a h1
  have hz : (lettersT d.text kind d.a (nextW d.text d.a)).size = d.text.size := by
    rw [← size_toList, ← size_toList]
    exact letK_len _ _ _ _ _ hn1 (by rw [size_toList]; exact hn2)
  refine ⟨by show nextW d.text d.a ≤ _; rw [show (lettersD kind d).text = lettersT d.text kind d.a (nextW d.text d.a) from rfl, hz]; exact hn2, ⟨by rw [show (lettersD kind d).text = lettersT d.text kind d.a (nextW d.text d.a) from rfl, hz]; exact h2, ?_⟩, h4⟩
  intro c hc
  have hc : c ∈ d.text.data.toList.take d.a ++ (letL (decide (kind = 16) || decide (kind = 18)) (decide (kind = 16)) ((d.text.data.toList.take (nextW d.text d.a)).drop d.a) ++ d.text.data.toList.drop (nextW d.text d.a)) := hc
  rw [List.mem_append, List.mem_append] at hc
  rcases hc with hc | hc | hc
  · exact h3 c (List.mem_of_mem_take hc)
  · exact letL_clean _ _ _ (fun c hc => h3 c (List.mem_of_mem_take (List.mem_of_mem_drop hc))) c hc
  · exact h3 c (List.mem_of_mem_drop hc)
theorem byte_clean {kind byte : Int} (h : keyE kind byte = 0) (hk : kind = 1 ∨ kind = 22) : Cl ⟨#[UInt8.ofNat byte.toNat]⟩ := by
  intro c hc
  have hc : c = UInt8.ofNat byte.toNat := by simpa using hc
  subst hc
  have hb : 1 ≤ byte ∧ byte ≤ 255 ∧ byte ≠ 10 := by
    rcases hk with rfl | rfl
    · simp [keyE, withinB] at h; omega
    · simp [keyE, withinB] at h; omega
  have hn : (UInt8.ofNat byte.toNat).toNat = byte.toNat := by
    rw [UInt8.toNat_ofNat']; exact Nat.mod_eq_of_lt (by simp only [Nat.reducePow]; omega)
  refine ⟨fun e => ?_, fun e => ?_⟩
  · have h0 : (UInt8.ofNat byte.toNat).toNat = 0 := by rw [e]; rfl
    omega
  · have h0 : (UInt8.ofNat byte.toNat).toNat = 10 := by rw [e]; rfl
    omega
theorem actD_good {d : ED} {kind byte : Int} (was : Bool) (h : GD d) (hk : keyE kind byte = 0) : GD (actD kind byte was d) := by
  have h0 := h
  obtain ⟨h1, h2, h4⟩ := h
  have hr := keyE_kind hk
  have hor : kind = 1 ∨ kind = 2 ∨ kind = 3 ∨ kind = 4 ∨ kind = 5 ∨ kind = 6 ∨ kind = 7 ∨ kind = 8 ∨ kind = 9 ∨ kind = 10 ∨ kind = 11 ∨ kind = 12 ∨ kind = 13 ∨ kind = 14 ∨ kind = 15 ∨ kind = 16 ∨ kind = 17 ∨ kind = 18 ∨ kind = 19 ∨ kind = 20 ∨ kind = 21 ∨ kind = 22 := by omega
  rcases hor with rfl | rfl | rfl | rfl | rfl | rfl | rfl | rfl | rfl | rfl | rfl | rfl | rfl | rfl | rfl | rfl | rfl | rfl | rfl | rfl | rfl | rfl
  · exact insD_good h0 (byte_clean hk (.inl rfl))
  · exact ⟨by show d.a - 1 ≤ _; exact Nat.le_trans (Nat.sub_le _ _) h1, h2, h4⟩
  · exact ⟨Nat.min_le_right _ _, h2, h4⟩
  · exact ⟨Nat.zero_le _, h2, h4⟩
  · exact ⟨Nat.le_refl _, h2, h4⟩
  · show GD (if 0 < d.a then eraD (d.a - 1) d.a d else d)
    split
    · exact eraD_good h0 (by omega) h1
    · exact h0
  · show GD (if d.a < d.text.size then eraD d.a (d.a + 1) d else d)
    split
    · exact eraD_good h0 (by omega) (by omega)
    · exact h0
  · exact killD_good was h0 h1 (Nat.le_refl _)
  · exact killD_good was h0 (Nat.zero_le _) h1
  · exact killD_good was h0 (backW_le _ _) h1
  · exact killD_good was h0 (nextW_ge _ _) (nextW_le _ _ h1)
  · exact insD_good h0 h4.2
  · exact swapD_good h0
  · exact ⟨Nat.le_trans (backW_le _ _) h1, h2, h4⟩
  · exact ⟨nextW_le _ _ h1, h2, h4⟩
  · exact lettersD_good 16 h0
  · exact lettersD_good 17 h0
  · exact lettersD_good 18 h0
  · exact h0
  · exact h0
  · exact h0
  · exact insD_good h0 (byte_clean hk (.inr rfl))

theorem nil_or_snoc' {α : Type} (l : List α) : l = [] ∨ ∃ p x, l = p ++ [x] := by
  rcases List.eq_nil_or_concat l with h | ⟨p, x, h⟩
  · exact .inl h
  · exact .inr ⟨p, x, by rw [h, List.concat_eq_append]⟩
/-- a good line -/
structure GL (l : EL) : Prop where
  at0 : 0 ≤ l.at'
  at1 : l.at' ≤ l.text.size
  text : LN l.text
  begun : LN l.begun
  killed : LN l.killed
  state : ∀ s ∈ l.before, LN s.1 ∧ 0 ≤ s.2 ∧ s.2 ≤ s.1.size
theorem goodB_iff (l : EL) : goodB l = true ↔ GL l := by
  unfold goodB
  simp only [Bool.and_eq_true, List.all_eq_true, lineB_iff, stateB, withinB, decide_eq_true_eq]
  constructor
  · rintro ⟨⟨⟨⟨⟨h1, h2⟩, h3⟩, h4⟩, h5⟩, h6⟩
    exact ⟨h1, h2, h3, h4, h5, fun s hs => by have := h6 s hs; exact ⟨this.1, this.2.1, this.2.2⟩⟩
  · rintro ⟨h1, h2, h3, h4, h5, h6⟩
    exact ⟨⟨⟨⟨⟨h1, h2⟩, h3⟩, h4⟩, h5⟩, fun s hs => by have := h6 s hs; exact ⟨this.1, this.2.1, this.2.2⟩⟩
theorem noted_sub (l : EL) : ∀ s ∈ noted l, s ∈ l.before ∨ s = (l.text, l.at') := fun s hs => by
  have := List.mem_of_mem_drop (show s ∈ (l.before ++ [(l.text, l.at')]).drop (l.before.length + 1 - 100) from hs)
  simpa using this
theorem change_good {l : EL} {kind byte : Int} (h : GL l) (hk : keyE kind byte = 0) : GL (changeL l kind byte) := by
  have hd := actD_good (d := ⟨l.text, l.at'.toNat, l.killed, false⟩) l.killing ⟨by have := h.at0; have := h.at1; show l.at'.toNat ≤ l.text.size; omega, h.text, h.killed⟩ hk
  unfold changeL
  generalize actD kind byte l.killing ⟨l.text, l.at'.toNat, l.killed, false⟩ = d at *
  refine ⟨Int.natCast_nonneg _, Int.ofNat_le.2 hd.1, hd.2.1, h.begun, hd.2.2, fun s hs => ?_⟩
  dsimp only at hs
  split at hs
  · exact h.state s hs
  · rcases noted_sub l s hs with hs | rfl
    · exact h.state s hs
    · exact ⟨h.text, h.at0, h.at1⟩
/-- undoing leads to the empty line -/
def Lead (l : EL) : Prop := (l.before = [] → l.text = ⟨#[]⟩ ∧ l.at' = 0) ∧ ∀ b r, l.before = b :: r → b = (⟨#[]⟩, 0)
theorem change_lead {l : EL} {kind byte : Int} (h : GL l) (hk : keyE kind byte = 0) (hn : l.before.length < 100) (hl : Lead l) : Lead (changeL l kind byte) ∧ (changeL l kind byte).before.length ≤ l.before.length + 1 ∧ (changeL l kind byte).place = l.place := by
  have hg := change_good h hk
  have hb : (changeL l kind byte).before = if (changeL l kind byte).text = l.text ∨ (kind = 1 ∧ goesL l = true) then l.before else noted l := rfl
  have hp : (changeL l kind byte).place = l.place := rfl
  generalize changeL l kind byte = m at *
  have hno : noted l = l.before ++ [(l.text, l.at')] := by unfold noted; rw [show l.before.length + 1 - 100 = 0 by omega]; rfl
  rw [hno] at hb
  by_cases hc : m.text = l.text ∨ (kind = 1 ∧ goesL l = true)
  · rw [if_pos hc] at hb
    refine ⟨⟨fun he => ?_, fun b r he => hl.2 b r (by rw [← hb]; exact he)⟩, by rw [hb]; omega, hp⟩
    have he2 : l.before = [] := by rw [← hb]; exact he
    have ht : m.text = l.text := by
      rcases hc with hc | ⟨_, hc⟩
      · exact hc
      · simp [goesL, he2] at hc
    have h1 := hl.1 he2
    rw [h1.1] at ht
    refine ⟨ht, ?_⟩
    have h2 := hg.at0
    have h3 := hg.at1
    rw [ht] at h3
    have h3 : m.at' ≤ 0 := h3
    omega
  · rw [if_neg hc] at hb
    refine ⟨⟨fun he => ?_, fun b r he => ?_⟩, by rw [hb]; simp, hp⟩
    · rw [hb] at he; simp at he
    · rw [hb] at he
      cases hbf : l.before with
      | nil =>
        rw [hbf] at he
        simp at he
        have h1 := hl.1 hbf
        rw [← he.1, h1.1, h1.2]
      | cons c q =>
        rw [hbf] at he
        simp at he
        rw [← he.1]
        exact hl.2 c q hbf
theorem undo_lead {l : EL} (h : GL l) (hl : Lead l) : GL (undoL { l with killing := false }) ∧ Lead (undoL { l with killing := false }) ∧ (undoL { l with killing := false }).before.length = l.before.length - 1 ∧ (undoL { l with killing := false }).place = l.place := by
  unfold undoL
  rcases nil_or_snoc' l.before with hb | ⟨p, x, hb⟩
  · simp only [hb, List.getLast?_nil]
    exact ⟨⟨h.at0, h.at1, h.text, h.begun, h.killed, by simp⟩, ⟨fun _ => hl.1 hb, fun b r he => by simp at he⟩, by simp, trivial⟩
  · simp only [hb, List.getLast?_append, List.getLast?_singleton, Option.some_or, List.dropLast_concat]
    have hx := h.state x (by rw [hb]; simp)
    refine ⟨⟨hx.2.1, hx.2.2, hx.1, h.begun, h.killed, fun s hs => h.state s (by rw [hb]; exact List.mem_append_left _ hs)⟩, ⟨fun he => ?_, fun b r he => ?_⟩, by simp, trivial⟩
    · have he : p = [] := he
      have := hl.2 x [] (by rw [hb, he]; rfl)
      rw [this]; exact ⟨rfl, rfl⟩
    · have he : p = b :: r := he
      exact hl.2 b (r ++ [x]) (by rw [hb, he]; rfl)

end Go.Proofs.YtokmiommhfbkeaaGreatDoor

namespace Go.Proofs.YtokmiommhfbkeaaGreatDoor
open Go.RowKit

theorem tmod_lt' (n m : Int) (h : 0 < m) : -m < n.tmod m ∧ n.tmod m < m := by
  have h1 := Int.tmod_lt_of_pos n h
  have h2 := Int.lt_tmod_of_pos n h
  exact ⟨h2, h1⟩
/-- a number between 0 and high -/
def pw (n high : Int) : Int := n.tmod (high + 1) % (high + 1)
theorem pw_range (n high : Int) (h : 0 ≤ high) : 0 ≤ pw n high ∧ pw n high ≤ high := by
  unfold pw
  have a1 := Int.emod_nonneg (n.tmod (high + 1)) (show high + 1 ≠ 0 by omega)
  have a2 := Int.emod_lt_of_pos (n.tmod (high + 1)) (show 0 < high + 1 by omega)
  omega
set_option maxHeartbeats 800000 in
theorem pwithin_det (n high : Int) (w : World) (h0 : 0 ≤ high) (h1 : high ≤ 1000000) :
    Calls Tryz.prog 8 #[.int .i64 n, .int .i64 0, .int .i64 high] w fun e w' => e = .returned (.int .i64 (pw n high)) ∧ w = w' := by
  have HP := Lib.hid (show pw n high = n.tmod (high + 1) % (high + 1) from rfl)
  have HR := Lib.hid (pw_range n high h0)
  generalize pw n high = r at *
  obtain ⟨m, hm⟩ : ∃ m, high + 1 = m := ⟨_, rfl⟩
  rw [hm] at HP
  have hz : (m == 0) = false := by rw [beq_eq_false_iff_ne]; omega
  have ht := tmod_lt' n m (by omega)
  have hm0 : 0 < m := by omega
  have hm1 : m ≤ 1000001 := by omega
  go_enter Tryz.func8, Tryz.ntmps8
  go_wp2
  go_ret
  have a1 := Int.emod_nonneg (n.tmod m) (show m ≠ 0 by omega)
  have a2 := Int.emod_lt_of_pos (n.tmod m) hm0
  have hw : wrap64 (n.tmod m % m) = n.tmod m % m := by unfold wrap64; omega
  exact ⟨ret_int (by rw [hw, HP.out]), rfl⟩

def DetKey (kind byte : Int) (w : World) (e : Ending) (w' : World) : Prop := e = .returned (.agg #[.int .i64 kind, .int .i64 byte]) ∧ Below w.heap.size w w'
set_option maxRecDepth 100000 in
set_option maxHeartbeats 3200000 in
theorem keyOf_det (n b : Int) (hb1 : -9223372036854775808 ≤ b) (hb2 : b ≤ 9223372036854775807) :
    ∃ kind byte : Int, ∀ w, Calls Tryz.prog 15 #[.int .i64 n, .int .i64 b] w (DetKey kind byte w) := by
  have ht := tmod_lt' n 3 (by omega)
  have hq := tmod_lt' b 2 (by omega)
  have hp := pw_range n 23 (by omega)
  have hp5 := pw_range (b.tdiv 2) 5 (by omega)
  have hor : pw (b.tdiv 2) 5 = 0 ∨ pw (b.tdiv 2) 5 = 1 ∨ pw (b.tdiv 2) 5 = 2 ∨ pw (b.tdiv 2) 5 = 3 ∨ pw (b.tdiv 2) 5 = 4 ∨ pw (b.tdiv 2) 5 = 5 := by omega
  have HOR := Lib.hid hor
  clear hor hp5
  cases h3 : (n.tmod 3 != 0)
  · cases hk1 : (pw n 23 == 1)
    · cases hk2 : (pw n 23 == 22)
      · apply Exists.intro; apply Exists.intro; intro w
        go_enter Tryz.func15, Tryz.ntmps15
        go_wp2_with (go_at_call 8; refine (pwithin_det _ _ _ (by omega) (by omega)).mono ?_; rintro e w' ⟨rfl, rfl⟩)
        refine bodyPost_ret (v := .agg #[_, _]) (by simp [results, Tryz.results15, go_sem]; exact ⟨rfl, rfl⟩) rfl ⟨rfl, ?_⟩
        exact ((Below.refl _ w).alloc (Nat.le_refl _) _).alloc (by simp) _
      · cases h2 : (b.tmod 2 == 0)
        · apply Exists.intro; apply Exists.intro; intro w
          go_enter Tryz.func15, Tryz.ntmps15
          go_wp2_with (go_at_call 8; refine (pwithin_det _ _ _ (by omega) (by omega)).mono ?_; rintro e w' ⟨rfl, rfl⟩)
          refine bodyPost_ret (v := .agg #[_, _]) (by simp [results, Tryz.results15, go_sem]; exact ⟨rfl, rfl⟩) rfl ⟨rfl, ?_⟩
          exact ((Below.refl _ w).alloc (Nat.le_refl _) _).alloc (by simp) _
        · rcases HOR.out with hr | hr | hr | hr | hr | hr
          all_goals
            apply Exists.intro; apply Exists.intro; intro w
            go_enter Tryz.func15, Tryz.ntmps15
            go_wp2_with (go_at_call 8; refine (pwithin_det _ _ _ (by omega) (by omega)).mono ?_; rintro e w' ⟨rfl, rfl⟩)
            refine bodyPost_ret (v := .agg #[_, _]) (by simp [results, Tryz.results15, go_sem]; exact ⟨rfl, rfl⟩) rfl ⟨rfl, ?_⟩
            exact ((Below.refl _ w).alloc (Nat.le_refl _) _).alloc (by simp) _
    · cases h2 : (b.tmod 2 == 0)
      · apply Exists.intro; apply Exists.intro; intro w
        go_enter Tryz.func15, Tryz.ntmps15
        go_wp2_with (go_at_call 8; refine (pwithin_det _ _ _ (by omega) (by omega)).mono ?_; rintro e w' ⟨rfl, rfl⟩)
        refine bodyPost_ret (v := .agg #[_, _]) (by simp [results, Tryz.results15, go_sem]; exact ⟨rfl, rfl⟩) rfl ⟨rfl, ?_⟩
        exact ((Below.refl _ w).alloc (Nat.le_refl _) _).alloc (by simp) _
      · rcases HOR.out with hr | hr | hr | hr | hr | hr
        all_goals
          apply Exists.intro; apply Exists.intro; intro w
          go_enter Tryz.func15, Tryz.ntmps15
          go_wp2_with (go_at_call 8; refine (pwithin_det _ _ _ (by omega) (by omega)).mono ?_; rintro e w' ⟨rfl, rfl⟩)
          refine bodyPost_ret (v := .agg #[_, _]) (by simp [results, Tryz.results15, go_sem]; exact ⟨rfl, rfl⟩) rfl ⟨rfl, ?_⟩
          exact ((Below.refl _ w).alloc (Nat.le_refl _) _).alloc (by simp) _
  · cases h2 : (b.tmod 2 == 0)
    · apply Exists.intro; apply Exists.intro; intro w
      go_enter Tryz.func15, Tryz.ntmps15
      go_wp2_with (go_at_call 8; refine (pwithin_det _ _ _ (by omega) (by omega)).mono ?_; rintro e w' ⟨rfl, rfl⟩)
      refine bodyPost_ret (v := .agg #[_, _]) (by simp [results, Tryz.results15, go_sem]; exact ⟨rfl, rfl⟩) rfl ⟨rfl, ?_⟩
      exact ((Below.refl _ w).alloc (Nat.le_refl _) _).alloc (by simp) _
    · rcases HOR.out with hr | hr | hr | hr | hr | hr
      all_goals
        apply Exists.intro; apply Exists.intro; intro w
        go_enter Tryz.func15, Tryz.ntmps15
        go_wp2_with (go_at_call 8; refine (pwithin_det _ _ _ (by omega) (by omega)).mono ?_; rintro e w' ⟨rfl, rfl⟩)
        refine bodyPost_ret (v := .agg #[_, _]) (by simp [results, Tryz.results15, go_sem]; exact ⟨rfl, rfl⟩) rfl ⟨rfl, ?_⟩
        exact ((Below.refl _ w).alloc (Nat.le_refl _) _).alloc (by simp) _

end Go.Proofs.YtokmiommhfbkeaaGreatDoor

namespace Go.Proofs.YtokmiommhfbkeaaGreatDoor
open Go.RowKit

/-- v is a slice of pairs of numbers -/
def KS' (w : World) (v : Value) (n : Nat) : Prop :=
  ∃ A c, v = .slice A n c ∧ n ≤ c ∧ (0 < n → ∃ b off, A = some ⟨b, off, none⟩ ∧ b < w.heap.size ∧ ∀ j, j < n → ∃ x y : Int, w.cell? ⟨b, off + j * 2, none⟩ = some (.int .i64 x) ∧ w.cell? ⟨b, off + j * 2 + 1, none⟩ = some (.int .i64 y) ∧ -9223372036854775808 ≤ y ∧ y ≤ 9223372036854775807)
abbrev lnC (l : EL) (bv : Value) : Array Value := #[.string l.text, .int .i64 l.at', .string l.killed, .bool l.killing, bv, .int .i64 l.place, .string l.begun]
/-- the law's two lines, in their boxes -/
structure KLines (w0 wr : World) (B : Nat) (l : EL) (v u : Value) : Prop where
  fit : Fit l
  box1 : Blk wr B 37 (lnC l v)
  box2 : Blk wr (B + 1) 37 (lnC l u)
  es1 : ES wr v l.before
  es2 : ES wr u l.before
  far1 : ∀ k, v.ownBlock = some k → B + 1 < k
  far2 : ∀ k, u.ownBlock = some k → B + 1 < k
  below : Below w0.heap.size w0 wr
theorem KLines.keep {w0 w w' : World} {B : Nat} {l : EL} {v u : Value} (h : KLines w0 w B l v u) (hb : Below w.heap.size w w') : KLines w0 w' B l v u :=
  ⟨h.fit, h.box1.below hb h.box1.lt, h.box2.below hb h.box2.lt, h.es1.keep hb, h.es2.keep hb, h.far1, h.far2, h.below.trans (hb.mono h.below.size)⟩

theorem fit_empty : Fit emptyL := ⟨by decide, by decide, by decide, by decide, fun s hs => by simp [emptyL] at hs⟩
theorem fit_good {l : EL} (h : GL l) (hn : l.before.length ≤ 101) : Fit l :=
  ⟨by have := h.text.1; unfold maxLen; omega, by have := h.killed.1; unfold maxLen; omega, by have := h.begun.1; unfold maxLen; omega, by omega, fun s hs => by have := (h.state s hs).1.1; unfold maxLen; omega⟩
theorem fit_place {l : EL} {h : List ByteArray} {goal : Int} (hf : Fit l) (hs : ∀ s ∈ h, s.size ≤ maxLen) : Fit (placeL l h goal) := by
  obtain ⟨f1, f2, f3, f4, f5⟩ := hf
  unfold placeL
  split
  · exact ⟨f1, f2, f3, f4, f5⟩
  · have hb : (if l.place = 0 then l.text else l.begun).size ≤ maxLen := by split <;> assumption
    refine ⟨?_, f2, hb, Nat.zero_le _, fun s hs => by simp at hs⟩
    dsimp only
    split
    · rw [List.getD_eq_getElem?_getD]
      cases hh : h[h.length - goal.toNat]? with
      | none => show 0 ≤ maxLen; exact Nat.zero_le _
      | some s => exact hs s (List.mem_of_getElem? hh)
    · exact hb
theorem fit_undo {l : EL} (hf : Fit l) : Fit (undoL l) := by
  obtain ⟨f1, f2, f3, f4, f5⟩ := hf
  unfold undoL
  split
  · exact ⟨f1, f2, f3, f4, f5⟩
  · rename_i b hb
    refine ⟨f5 b (List.mem_of_getLast? hb), f2, f3, ?_, fun s hs => f5 s (List.dropLast_subset _ hs)⟩
    dsimp only
    rw [List.length_dropLast]
    omega
theorem fit_press {l : EL} {h : List ByteArray} {kind byte : Int} (hf : Fit l) (hs : ∀ s ∈ h, s.size ≤ maxLen) : Fit (pressL l h kind byte).1 := by
  unfold pressL
  split
  · exact fit_empty
  · rename_i h0
    split
    · exact fit_empty
    · rename_i h1
      have h0 : pressedE l h h.length = 0 := by omega
      have h1 : keyE kind byte = 0 := by omega
      unfold keyL
      split
      · exact fit_undo hf
      · split
        · exact fit_place hf hs
        · split
          · exact fit_place hf hs
          · have hg : GL l := by
              refine (goodB_iff l).1 ?_
              unfold pressedE at h0
              split at h0
              · omega
              · rename_i hh; simpa using hh
            refine fit_good (change_good hg h1) ?_
            have hlen := (good_of h0).len
            unfold changeL noted
            dsimp only
            split
            · omega
            · simp; omega

theorem set7' (a0 a1 a2 a3 a4 a5 a6 b0 b1 b2 b3 b4 b5 b6 : Value) :
    (((((((#[a0, a1, a2, a3, a4, a5, a6] : Array Value).setIfInBounds 0 b0).setIfInBounds 1 b1).setIfInBounds 2 b2).setIfInBounds 3 b3).setIfInBounds 4 b4).setIfInBounds 5 b5).setIfInBounds 6 b6 = #[b0, b1, b2, b3, b4, b5, b6] := by simp
theorem blk_set7' {w : World} {B : Nat} {t : TypeId} {a0 a1 a2 a3 a4 a5 a6 : Value} (h : Blk w B t #[a0, a1, a2, a3, a4, a5, a6]) (b0 b1 b2 b3 b4 b5 b6 : Value) :
    Blk (((((((w.setCell ⟨B, 0, none⟩ b0).setCell ⟨B, 1, none⟩ b1).setCell ⟨B, 2, none⟩ b2).setCell ⟨B, 3, none⟩ b3).setCell ⟨B, 4, none⟩ b4).setCell ⟨B, 5, none⟩ b5).setCell ⟨B, 6, none⟩ b6) B t #[b0, b1, b2, b3, b4, b5, b6] := by
  have := ((((((h.set_ 0 b0).set_ 1 b1).set_ 2 b2).set_ 3 b3).set_ 4 b4).set_ 5 b5).set_ 6 b6
  rwa [set7'] at this

theorem below_of_drew {a c : World} (k : Below a.drew.heap.size a.drew c) : Below a.heap.size a c := (Below.refl _ a).drew.trans k
theorem below_of_alloc_drew {a c : World} {o : Obj} (k : Below (a.alloc o).drew.heap.size (a.alloc o).drew c) : Below a.heap.size a c := ((Below.refl _ a).alloc (Nat.le_refl _) o).drew.trans (k.mono (by show _ ≤ (a.alloc o).heap.size; simp))
theorem below_step {a b c : World} (h : Below a.heap.size a b) (k : Below b.heap.size b c) : Below a.heap.size a c := h.trans (k.mono h.size)
theorem below_step_alloc {a b c : World} {o : Obj} (h : Below a.heap.size a b) (k : Below (b.alloc o).heap.size (b.alloc o) c) : Below a.heap.size a c := (h.alloc h.size o).trans (k.mono (Nat.le_trans h.size (by simp)))
theorem new_kept {b c : World} {cs : Array Value} {t : TypeId} (k : Below (b.alloc (.cells cs t)).heap.size (b.alloc (.cells cs t)) c) : Blk c b.heap.size t cs := (k.block _ (by simp)).trans (heap_alloc_new b _)
theorem new_kept_drew {b c : World} {cs : Array Value} {t : TypeId} (k : Below (b.alloc (.cells cs t)).drew.heap.size (b.alloc (.cells cs t)).drew c) : Blk c b.heap.size t cs := (k.block _ (by show _ < (b.alloc (.cells cs t)).heap.size; simp)).trans (heap_alloc_new b _)
theorem blk_keepB {b c : World} {g : Nat} {cs : Array Value} {t : TypeId} (h : Blk b g t cs) (k : Below b.heap.size b c) : Blk c g t cs := h.below k h.lt
theorem nine {a w : World} {B g : Nat} {u0 u1 u2 u3 u4 u5 u6 u7 u8 : Value} (hb : Below a.heap.size a w) (hB : B < a.heap.size) (hg : g < a.heap.size)
    (h : a.cell? ⟨B, 0, none⟩ = some u0 ∧ a.cell? ⟨B, 1, none⟩ = some u1 ∧ a.cell? ⟨B, 2, none⟩ = some u2 ∧ a.cell? ⟨B, 3, none⟩ = some u3 ∧ a.cell? ⟨B, 4, none⟩ = some u4 ∧ a.cell? ⟨B, 5, none⟩ = some u5 ∧ a.cell? ⟨B, 6, none⟩ = some u6 ∧ a.cell? ⟨g, 0, none⟩ = some u7 ∧ a.cell? ⟨g, 1, none⟩ = some u8) :
    w.cell? ⟨B, 0, none⟩ = some u0 ∧ w.cell? ⟨B, 1, none⟩ = some u1 ∧ w.cell? ⟨B, 2, none⟩ = some u2 ∧ w.cell? ⟨B, 3, none⟩ = some u3 ∧ w.cell? ⟨B, 4, none⟩ = some u4 ∧ w.cell? ⟨B, 5, none⟩ = some u5 ∧ w.cell? ⟨B, 6, none⟩ = some u6 ∧ w.cell? ⟨g, 0, none⟩ = some u7 ∧ w.cell? ⟨g, 1, none⟩ = some u8 := by
  obtain ⟨h0, h1, h2, h3, h4, h5, h6, h7, h8⟩ := h
  exact ⟨(hb.cell (p := ⟨B, 0, none⟩) hB).trans h0, (hb.cell (p := ⟨B, 1, none⟩) hB).trans h1, (hb.cell (p := ⟨B, 2, none⟩) hB).trans h2, (hb.cell (p := ⟨B, 3, none⟩) hB).trans h3, (hb.cell (p := ⟨B, 4, none⟩) hB).trans h4, (hb.cell (p := ⟨B, 5, none⟩) hB).trans h5, (hb.cell (p := ⟨B, 6, none⟩) hB).trans h6, (hb.cell (p := ⟨g, 0, none⟩) hg).trans h7, (hb.cell (p := ⟨g, 1, none⟩) hg).trans h8⟩

/-- what a press has told: its line in a new box, its error -/
def Told (wz wc : World) (r : EL × Int) (s9 s10 : Value) : Prop :=
  ∃ g9 v3, s9 = .pointer (some ⟨g9, 0, none⟩) ∧ s10 = .int .i64 r.2 ∧ Blk wc g9 37 (lnC r.1 v3) ∧ ES wc v3 r.1.before ∧ (∀ k, v3.ownBlock = some k → wz.heap.size ≤ k) ∧ wz.heap.size ≤ g9 ∧ Below wz.heap.size wz wc

theorem ES.setFar' {w : World} {v : Value} {l : List (ByteArray × Int)} {B : Nat} (h : ES w v l) (hv : ∀ k, v.ownBlock = some k → B < k) (i : Nat) (u : Value) : ES (w.setCell ⟨B, i, none⟩ u) v l := by
  obtain ⟨A, c, rfl, hc, h⟩ := h
  refine ⟨A, c, rfl, hc, fun hp => ?_⟩
  obtain ⟨b, off, rfl, hlt, hcell⟩ := h hp
  have hb : B < b := hv b rfl
  refine ⟨b, off, rfl, by simpa [World.setCell] using hlt, fun j hj => ⟨?_, ?_⟩⟩
  · rw [World.cell?_setCell_other _ _ _ _ (by intro e; injection e; omega)]; exact (hcell j hj).1
  · rw [World.cell?_setCell_other _ _ _ _ (by intro e; injection e; omega)]; exact (hcell j hj).2
theorem told_set {wz w3 : World} {g9 : Nat} {v3 : Value} {r : EL × Int} (hz : wz.heap.size ≤ g9) (K : Blk w3 g9 37 zeroL) (he : ES w3 v3 r.1.before) (hf : ∀ k, v3.ownBlock = some k → g9 < k) (hb : Below wz.heap.size wz w3) :
    Told wz (((((((w3.setCell ⟨g9, 0, none⟩ (.string r.1.text)).setCell ⟨g9, 1, none⟩ (.int .i64 r.1.at')).setCell ⟨g9, 2, none⟩ (.string r.1.killed)).setCell ⟨g9, 3, none⟩ (.bool r.1.killing)).setCell ⟨g9, 4, none⟩ v3).setCell ⟨g9, 5, none⟩ (.int .i64 r.1.place)).setCell ⟨g9, 6, none⟩ (.string r.1.begun)) r (.pointer (some ⟨g9, 0, none⟩)) (.int .i64 r.2) :=
  ⟨g9, v3, rfl, rfl, blk_set7' K _ _ _ _ _ _ _, ((((((he.setFar' hf 0 _).setFar' hf 1 _).setFar' hf 2 _).setFar' hf 3 _).setFar' hf 4 _).setFar' hf 5 _).setFar' hf 6 _,
    fun k hk => by have := hf k hk; omega, hz, below_seven hb hz _ _ _ _ _ _ _⟩
theorem told_new {wz w3 : World} {v3 : Value} {r : EL × Int} (he : ES w3 v3 r.1.before) (hf : ∀ k, v3.ownBlock = some k → wz.heap.size ≤ k) (hb : Below wz.heap.size wz w3) :
    Told wz (w3.alloc (.cells (lnC r.1 v3) 37)) r (.pointer (some ⟨w3.heap.size, 0, none⟩)) (.int .i64 r.2) :=
  ⟨w3.heap.size, v3, rfl, rfl, heap_alloc_new w3 _, he.keep ((Below.refl _ _).alloc (Nat.le_refl _) _), hf, hb.size, hb.alloc hb.size _⟩

/-- a whole line is stored into its box -/
abbrev sevenL (w : World) (B : Nat) (l : EL) (v : Value) : World := (((((((w.setCell ⟨B, 0, none⟩ (.string l.text)).setCell ⟨B, 1, none⟩ (.int .i64 l.at')).setCell ⟨B, 2, none⟩ (.string l.killed)).setCell ⟨B, 3, none⟩ (.bool l.killing)).setCell ⟨B, 4, none⟩ v).setCell ⟨B, 5, none⟩ (.int .i64 l.place)).setCell ⟨B, 6, none⟩ (.string l.begun))
theorem seven_same {w : World} {B : Nat} {t : TypeId} {l m : EL} {v u : Value} (h : Blk w B t (lnC l v)) : Blk (sevenL w B m u) B t (lnC m u) := blk_set7' h _ _ _ _ _ _ _
theorem seven_far {w : World} {B g : Nat} {t : TypeId} {cs : Array Value} (h : Blk w g t cs) (hne : g ≠ B) (l : EL) (v : Value) : Blk (sevenL w B l v) g t cs :=
  ((((((h.far (p := ⟨B, 0, none⟩) hne _).far (p := ⟨B, 1, none⟩) hne _).far (p := ⟨B, 2, none⟩) hne _).far (p := ⟨B, 3, none⟩) hne _).far (p := ⟨B, 4, none⟩) hne _).far (p := ⟨B, 5, none⟩) hne _).far (p := ⟨B, 6, none⟩) hne _
theorem seven_es {w : World} {B : Nat} {l : EL} {v u : Value} {b : List (ByteArray × Int)} (h : ES w u b) (hf : ∀ k, u.ownBlock = some k → B < k) : ES (sevenL w B l v) u b :=
  ((((((h.setFar' hf 0 _).setFar' hf 1 _).setFar' hf 2 _).setFar' hf 3 _).setFar' hf 4 _).setFar' hf 5 _).setFar' hf 6 _
theorem klines_set {w0 w : World} {B : Nat} {l r : EL} {v u v3 v5 : Value} (h : KLines w0 w B l v u) (hB : w0.heap.size ≤ B) (hf : Fit r) (he1 : ES w v3 r.before) (he2 : ES w v5 r.before)
    (hf1 : ∀ k, v3.ownBlock = some k → B + 1 < k) (hf2 : ∀ k, v5.ownBlock = some k → B + 1 < k) : KLines w0 (sevenL (sevenL w B r v3) (B + 1) r v5) B r v3 v5 where
  fit := hf
  box1 := seven_far (seven_same h.box1) (by omega) _ _
  box2 := seven_same (l := l) (v := u) (seven_far h.box2 (by omega) _ _)
  es1 := seven_es (seven_es he1 fun k hk => by have := hf1 k hk; omega) hf1
  es2 := seven_es (seven_es he2 fun k hk => by have := hf2 k hk; omega) hf2
  far1 := hf1
  far2 := hf2
  below := below_seven (below_seven h.below hB _ _ _ _ _ _ _) (by omega) _ _ _ _ _ _ _
theorem klines_set2 {w0 w : World} {B : Nat} {l r : EL} {v u v3 v5 : Value} (h : KLines w0 w B l v u) (hB : w0.heap.size ≤ B) (hf : Fit r) (he1 : ES w v3 r.before) (he2 : ES w v5 r.before)
    (hf1 : ∀ k, v3.ownBlock = some k → B + 1 < k) (hf2 : ∀ k, v5.ownBlock = some k → B + 1 < k) : KLines w0 (sevenL (sevenL w (B + 1) r v5) B r v3) B r v3 v5 where
  fit := hf
  box1 := seven_same (l := l) (v := v) (seven_far h.box1 (by omega) _ _)
  box2 := seven_far (seven_same h.box2) (by omega) _ _
  es1 := seven_es (seven_es he1 hf1) fun k hk => by have := hf1 k hk; omega
  es2 := seven_es (seven_es he2 hf2) fun k hk => by have := hf2 k hk; omega
  far1 := hf1
  far2 := hf2
  below := below_seven (below_seven h.below (by omega) _ _ _ _ _ _ _) hB _ _ _ _ _ _ _

end Go.Proofs.YtokmiommhfbkeaaGreatDoor

namespace Go.Proofs.YtokmiommhfbkeaaGreatDoor
open Go.RowKit

set_option maxRecDepth 100000 in
set_option maxHeartbeats 3200000 in
theorem keys_walk (v hv : Value) (n : Nat) (h : List ByteArray) (w : World) (hk : KS' w v n) (hh : SL w hv h) (hn : n ≤ 9223372036854775807) (hn2 : h.length ≤ 9223372036854775807) (hs : ∀ s ∈ h, s.size ≤ maxLen) :
    Calls Tryz.prog 4 #[v, hv] w fun e w' => e = .returned (.bool true) ∧ Below w.heap.size w w' := by
  have HH := Lib.hid hh
  have HHS := Lib.hid hs
  obtain ⟨A, c, rfl, hc, hcells⟩ := hk
  obtain ⟨A2, c2, rfl, hc2, hcells2⟩ := hh
  have HC := Lib.hid hcells
  clear hcells hcells2 hs
  go_enter Tryz.func4, Tryz.ntmps4
  go_wp2_with fail
  refine (landed_any w).mono ?_
  rintro e w1 ⟨rfl, hb1⟩
  go_wp2_with fail
  have HB := Lib.hid hb1.size
  go_loopw [17] (fun i wr => ∃ (k : Nat) (l : EL) (v u : Value), k ≤ n ∧ i = .int .i64 k ∧ Hid (KLines w wr w1.heap.size l v u)) (fun i _ => n - (intOf i).toNat)
  case atStart => exact ⟨0, emptyL, .slice none 0 0, .slice none 0 0, Nat.zero_le _, rfl, fit_empty, (Below.heap_alloc _ _ _ (by simp)).trans (heap_alloc_new w1 _), blk_new_at (by simp) _ _, ES.nil _, ES.nil _, (fun k hk => by cases hk), (fun k hk => by cases hk), (hb1.alloc hb1.size _).alloc (by have := hb1.size; simp; omega) _⟩
  case round =>
    obtain ⟨k, l, v, u, hk, rfl, HL⟩ := hrel
    by_cases hlt : k < n
    · obtain ⟨b, off, rfl, hbw, hcell⟩ := HC.out (by omega)
      obtain ⟨x, y, hx, hy, hy1, hy2⟩ := hcell k (by omega)
      have hx1 := (HL.out.below.cell (p := ⟨b, off + k * 2, none⟩) hbw).trans hx
      have hy3 := (HL.out.below.cell (p := ⟨b, off + k * 2 + 1, none⟩) hbw).trans hy
      obtain ⟨kind, byte, hkey⟩ := keyOf_det x y hy1 hy2
      have HK := Lib.hid hkey
      obtain ⟨r, hr⟩ : ∃ r, pressL l h kind byte = r := ⟨_, rfl⟩
      have HFR := Lib.hid (show Fit r.1 by rw [← hr]; exact fit_press HL.out.fit HHS.out)
      have HP := Lib.hid (fun W v (hv : ES W v l.before) (hh : SL W (.slice A2 h.length c2) h) => by
        have := press_any l v (.slice A2 h.length c2) h kind byte W hv hh HL.out.fit hn2 HHS.out
        rw [hr] at this; exact this)
      have HR := Lib.hid (fun W v (hv : ES W v l.before) (hh : SL W (.slice A2 h.length c2) h) => by
        have := rPress_any l v (.slice A2 h.length c2) h kind byte W hv hh HL.out.fit hn2 HHS.out
        rw [hr] at this; exact this)
      clear hr
      clear hx hy hcell hkey
      go_wp2_with fail
      have HL0 := Lib.hid (HL.out.keep ((Below.refl _ wr).alloc (Nat.le_refl _) (.cells #[.int .i64 x, .int .i64 y] 38)))
      have hp0 := two_cells wr (.int .i64 x) (.int .i64 y) 38
      have hpl : wr.heap.size < (wr.alloc (.cells #[.int .i64 x, .int .i64 y] 38)).heap.size := by simp
      generalize wr.alloc (.cells #[.int .i64 x, .int .i64 y] 38) = wa at *
      generalize wr.heap.size = g at *
      --WALK
      obtain ⟨hp0, hp1⟩ := hp0
      obtain ⟨cB, zB⟩ := HL0.out.box1.cell
      have HB1 := Lib.hid HL0.out.box1.lt
      have HG := Lib.hid hpl
      have HN1 : Hid (wa.cell? ⟨w1.heap.size, 0, none⟩ = some (.string l.text) ∧ wa.cell? ⟨w1.heap.size, 1, none⟩ = some (.int .i64 l.at') ∧ wa.cell? ⟨w1.heap.size, 2, none⟩ = some (.string l.killed) ∧ wa.cell? ⟨w1.heap.size, 3, none⟩ = some (.bool l.killing) ∧ wa.cell? ⟨w1.heap.size, 4, none⟩ = some v ∧ wa.cell? ⟨w1.heap.size, 5, none⟩ = some (.int .i64 l.place) ∧ wa.cell? ⟨w1.heap.size, 6, none⟩ = some (.string l.begun) ∧ wa.cell? ⟨g, 0, none⟩ = some (.int .i64 x) ∧ wa.cell? ⟨g, 1, none⟩ = some (.int .i64 y)) := Lib.hid ⟨cB 0, cB 1, cB 2, cB 3, cB 4, cB 5, cB 6, hp0, hp1⟩
      clear hx1 hy3 cB zB hpl hp0 hp1
      go_upto_region 7 with fail
      go_cut [9, 10] (fun s9 s10 wx => Told wa wx r s9 s10)
      case first =>
        go_region_held3 (fun W => W.cell? ⟨w1.heap.size, 0, none⟩ = some (.string l.text) ∧ W.cell? ⟨w1.heap.size, 1, none⟩ = some (.int .i64 l.at') ∧ W.cell? ⟨w1.heap.size, 2, none⟩ = some (.string l.killed) ∧ W.cell? ⟨w1.heap.size, 3, none⟩ = some (.bool l.killing) ∧ W.cell? ⟨w1.heap.size, 4, none⟩ = some v ∧ W.cell? ⟨w1.heap.size, 5, none⟩ = some (.int .i64 l.place) ∧ W.cell? ⟨w1.heap.size, 6, none⟩ = some (.string l.begun) ∧ W.cell? ⟨g, 0, none⟩ = some (.int .i64 x) ∧ W.cell? ⟨g, 1, none⟩ = some (.int .i64 y)) (first | (have hz9 := nine hbw3 HB1.out HG.out HN1.out; with_reducible assumption) | (have hz9 := nine (below_seven hbw3 HG9.out (.string r.1.text) (.int .i64 r.1.at') (.string r.1.killed) (.bool r.1.killing) (.slice A3 r.1.before.length c3) (.int .i64 r.1.place) (.string r.1.begun)) HB1.out HG.out HN1.out; with_reducible assumption) | (have hz9 := nine hbw2 HB1.out HG.out HN1.out; with_reducible assumption) | (with_reducible exact nine (hbw3.alloc hbw3.size _) HB1.out HG.out HN1.out) | (with_reducible exact nine (hbw2.alloc hbw2.size _) HB1.out HG.out HN1.out) | (with_reducible exact nine ((Below.refl _ wa).drew) HB1.out HG.out HN1.out) | (with_reducible exact nine (((Below.refl _ wa).alloc (Nat.le_refl _) _).drew) HB1.out HG.out HN1.out) | (with_reducible exact nine (((Below.refl _ wa).drew).alloc (Nat.le_refl _) _) HB1.out HG.out HN1.out))
          (first
            | (go_at_call 15; refine (HK.out _).mono ?_; rintro e w2 ⟨rfl, hb2⟩; have hbw2 : Below wa.heap.size wa w2 := (by first | (with_reducible exact below_of_drew hb2) | (with_reducible exact below_of_alloc_drew hb2)); first | (have K9 : Blk w2 wa.heap.size 37 zeroL := (by with_reducible exact new_kept_drew hb2)) | (have K9 := True.intro))
            | (go_at_call 14; refine (HP.out _ v ?es ?sl).mono ?_; (case es => first | (with_reducible exact (HL0.out.keep hbw2).es1) | (with_reducible exact (HL0.out.keep (hbw2.alloc hbw2.size _)).es1)); (case sl => first | (with_reducible exact HH.out.keep (HL0.out.keep hbw2).below) | (with_reducible exact HH.out.keep (HL0.out.keep (hbw2.alloc hbw2.size _)).below)); rintro e w3 ⟨v3, rfl, hes3, hfr3, hb3⟩; have hes3' := hes3; obtain ⟨A3, c3, rfl, _, _⟩ := hes3'; have HE3 := Lib.hid hes3; have hbw3 : Below wa.heap.size wa w3 := (by first | (with_reducible exact below_step hbw2 hb3) | (with_reducible exact below_step_alloc hbw2 hb3)); first | (have K93 : Blk w3 wa.heap.size 37 zeroL := (by with_reducible exact blk_keepB K9 hb3); obtain ⟨g9, hg9⟩ : ∃ g9, g9 = wa.heap.size := ⟨_, rfl⟩; have HG9 : Hid (wa.heap.size ≤ g9) := Lib.hid (by rw [hg9]; exact Nat.le_refl _); have HF9 : Hid (∀ k, (Value.slice A3 r.1.before.length c3).ownBlock = some k → g9 < k) := Lib.hid (fun k hk => by rw [hg9]; exact Nat.lt_of_lt_of_le (Blk.lt K9) (hfr3 k hk)); rw [← hg9] at K93; rw [← hg9]; have KK9 := Lib.hid K93; obtain ⟨c9, z9⟩ := Blk.cell K93; clear K93 K9 hg9 hfr3 hes3) | (have K93 : Blk w3 w2.heap.size 37 zeroL := (by with_reducible exact new_kept hb3); obtain ⟨g9, hg9⟩ : ∃ g9, g9 = w2.heap.size := ⟨_, rfl⟩; have HG9 : Hid (wa.heap.size ≤ g9) := Lib.hid (by rw [hg9]; exact hbw2.size); have HF9 : Hid (∀ k, (Value.slice A3 r.1.before.length c3).ownBlock = some k → g9 < k) := Lib.hid (fun k hk => by rw [hg9]; exact Nat.lt_of_lt_of_le (show w2.heap.size < (w2.alloc (.cells zeroL 37)).heap.size by simp) (hfr3 k hk)); rw [← hg9] at K93; rw [← hg9]; have KK9 := Lib.hid K93; obtain ⟨c9, z9⟩ := Blk.cell K93; clear K93 K9 hg9 hfr3 hes3) | (have HF9 := Lib.hid (fun k hk => Nat.le_trans hbw2.size (hfr3 k hk)); clear hfr3 hes3)))
        all_goals (go_wp2_with fail; go_meet)
        · exact told_new HE3.out HF9.out hbw3
        · exact told_set HG9.out KK9.out HE3.out HF9.out hbw3
        · exact told_set HG9.out KK9.out HE3.out HF9.out hbw3
      case rest =>
        obtain ⟨g3, v3, rfl, rfl, K3, hes3, hfr3, hg3, hb3⟩ := hcut
        obtain ⟨wb, hwb⟩ : ∃ wb, wb = wc := ⟨_, rfl⟩
        subst hwb
        have HL1 := Lib.hid (HL0.out.keep hb3)
        have HK3 := Lib.hid K3
        have HE3 := Lib.hid hes3
        have HG3 := Lib.hid hg3
        have HF3 := Lib.hid (fun k hk => Nat.lt_of_lt_of_le HL0.out.box2.lt (hfr3 k hk))
        obtain ⟨cB, zB⟩ := HL1.out.box2.cell
        have HB2 := Lib.hid HL1.out.box2.lt
        have HG2 := Lib.hid (Nat.lt_of_lt_of_le HG.out hb3.size)
        have HN2 : Hid (wb.cell? ⟨w1.heap.size + 1, 0, none⟩ = some (.string l.text) ∧ wb.cell? ⟨w1.heap.size + 1, 1, none⟩ = some (.int .i64 l.at') ∧ wb.cell? ⟨w1.heap.size + 1, 2, none⟩ = some (.string l.killed) ∧ wb.cell? ⟨w1.heap.size + 1, 3, none⟩ = some (.bool l.killing) ∧ wb.cell? ⟨w1.heap.size + 1, 4, none⟩ = some u ∧ wb.cell? ⟨w1.heap.size + 1, 5, none⟩ = some (.int .i64 l.place) ∧ wb.cell? ⟨w1.heap.size + 1, 6, none⟩ = some (.string l.begun) ∧ wb.cell? ⟨g, 0, none⟩ = some (.int .i64 x) ∧ wb.cell? ⟨g, 1, none⟩ = some (.int .i64 y)) := Lib.hid ⟨cB 0, cB 1, cB 2, cB 3, cB 4, cB 5, cB 6, (hb3.cell (p := ⟨g, 0, none⟩) HG.out).trans HN1.out.2.2.2.2.2.2.2.1, (hb3.cell (p := ⟨g, 1, none⟩) HG.out).trans HN1.out.2.2.2.2.2.2.2.2⟩
        clear cB zB hes3 hfr3 hg3 K3 hb3
        go_upto_region 8 with fail
        go_cut [11, 12] (fun s9 s10 wx => Told wb wx r s9 s10)
        case first =>
          go_region_held3 (fun W => W.cell? ⟨w1.heap.size + 1, 0, none⟩ = some (.string l.text) ∧ W.cell? ⟨w1.heap.size + 1, 1, none⟩ = some (.int .i64 l.at') ∧ W.cell? ⟨w1.heap.size + 1, 2, none⟩ = some (.string l.killed) ∧ W.cell? ⟨w1.heap.size + 1, 3, none⟩ = some (.bool l.killing) ∧ W.cell? ⟨w1.heap.size + 1, 4, none⟩ = some u ∧ W.cell? ⟨w1.heap.size + 1, 5, none⟩ = some (.int .i64 l.place) ∧ W.cell? ⟨w1.heap.size + 1, 6, none⟩ = some (.string l.begun) ∧ W.cell? ⟨g, 0, none⟩ = some (.int .i64 x) ∧ W.cell? ⟨g, 1, none⟩ = some (.int .i64 y)) (first | (have hz9 := nine hbw3 HB2.out HG2.out HN2.out; with_reducible assumption) | (have hz9 := nine (below_seven hbw3 HG9.out (.string r.1.text) (.int .i64 r.1.at') (.string r.1.killed) (.bool r.1.killing) (.slice A3 r.1.before.length c3) (.int .i64 r.1.place) (.string r.1.begun)) HB2.out HG2.out HN2.out; with_reducible assumption) | (have hz9 := nine hbw2 HB2.out HG2.out HN2.out; with_reducible assumption) | (with_reducible exact nine (hbw3.alloc hbw3.size _) HB2.out HG2.out HN2.out) | (with_reducible exact nine (hbw2.alloc hbw2.size _) HB2.out HG2.out HN2.out) | (with_reducible exact nine ((Below.refl _ wb).drew) HB2.out HG2.out HN2.out) | (with_reducible exact nine (((Below.refl _ wb).alloc (Nat.le_refl _) _).drew) HB2.out HG2.out HN2.out) | (with_reducible exact nine (((Below.refl _ wb).drew).alloc (Nat.le_refl _) _) HB2.out HG2.out HN2.out))
            (first
              | (go_at_call 15; refine (HK.out _).mono ?_; rintro e w2 ⟨rfl, hb2⟩; have hbw2 : Below wb.heap.size wb w2 := (by first | (with_reducible exact below_of_drew hb2) | (with_reducible exact below_of_alloc_drew hb2)); first | (have K9 : Blk w2 wb.heap.size 37 zeroL := (by with_reducible exact new_kept_drew hb2)) | (have K9 := True.intro))
              | (go_at_call 16; refine (HR.out _ u ?es ?sl).mono ?_; (case es => first | (with_reducible exact (HL1.out.keep hbw2).es2) | (with_reducible exact (HL1.out.keep (hbw2.alloc hbw2.size _)).es2)); (case sl => first | (with_reducible exact HH.out.keep (HL1.out.keep hbw2).below) | (with_reducible exact HH.out.keep (HL1.out.keep (hbw2.alloc hbw2.size _)).below)); rintro e w3 ⟨v3, rfl, hes3, hfr3, hb3⟩; have hes3' := hes3; obtain ⟨A3, c3, rfl, _, _⟩ := hes3'; have HE3 := Lib.hid hes3; have hbw3 : Below wb.heap.size wb w3 := (by first | (with_reducible exact below_step hbw2 hb3) | (with_reducible exact below_step_alloc hbw2 hb3)); first | (have K93 : Blk w3 wb.heap.size 37 zeroL := (by with_reducible exact blk_keepB K9 hb3); obtain ⟨g9, hg9⟩ : ∃ g9, g9 = wb.heap.size := ⟨_, rfl⟩; have HG9 : Hid (wb.heap.size ≤ g9) := Lib.hid (by rw [hg9]; exact Nat.le_refl _); have HF9 : Hid (∀ k, (Value.slice A3 r.1.before.length c3).ownBlock = some k → g9 < k) := Lib.hid (fun k hk => by rw [hg9]; exact Nat.lt_of_lt_of_le (Blk.lt K9) (hfr3 k hk)); rw [← hg9] at K93; rw [← hg9]; have KK9 := Lib.hid K93; obtain ⟨c9, z9⟩ := Blk.cell K93; clear K93 K9 hg9 hfr3 hes3) | (have K93 : Blk w3 w2.heap.size 37 zeroL := (by with_reducible exact new_kept hb3); obtain ⟨g9, hg9⟩ : ∃ g9, g9 = w2.heap.size := ⟨_, rfl⟩; have HG9 : Hid (wb.heap.size ≤ g9) := Lib.hid (by rw [hg9]; exact hbw2.size); have HF9 : Hid (∀ k, (Value.slice A3 r.1.before.length c3).ownBlock = some k → g9 < k) := Lib.hid (fun k hk => by rw [hg9]; exact Nat.lt_of_lt_of_le (show w2.heap.size < (w2.alloc (.cells zeroL 37)).heap.size by simp) (hfr3 k hk)); rw [← hg9] at K93; rw [← hg9]; have KK9 := Lib.hid K93; obtain ⟨c9, z9⟩ := Blk.cell K93; clear K93 K9 hg9 hfr3 hes3) | (have HF9 := Lib.hid (fun k hk => Nat.le_trans hbw2.size (hfr3 k hk)); clear hfr3 hes3)))
          all_goals (go_wp2_with fail; go_meet)
          · exact told_new HE3.out HF9.out hbw3
          · exact told_set HG9.out KK9.out HE3.out HF9.out hbw3
          · exact told_set HG9.out KK9.out HE3.out HF9.out hbw3
        case rest =>
          obtain ⟨g5, v5, rfl, rfl, K5, hes5, hfr5, hg5, hb5⟩ := hcut
          obtain ⟨wd, hwd⟩ : ∃ wd, wd = wc := ⟨_, rfl⟩
          subst hwd
          have HL2 := Lib.hid (HL1.out.keep hb5)
          have HK5 := Lib.hid K5
          have HE5 := Lib.hid hes5
          have HG5 := Lib.hid hg5
          have HF5 := Lib.hid (fun k hk => Nat.lt_of_lt_of_le HL1.out.box2.lt (hfr5 k hk))
          have HK4 := Lib.hid (HK3.out.below hb5 HK3.out.lt)
          have HE4 := Lib.hid (HE3.out.keep hb5)
          obtain ⟨A3, c3, rfl, _, _⟩ := HE4.out
          obtain ⟨A5, c5, rfl, _, _⟩ := hes5
          obtain ⟨d3, z3⟩ := HK4.out.cell
          obtain ⟨d5, z5⟩ := HK5.out.cell
          have l3 := HK4.out.lt
          have l5 := HK5.out.lt
          clear hfr5 hg5 K5 hb5 z3 z5
          unfold lnC at d3 d5
          by_cases hr : r.2 = 0
          · have er : (r.2 == 0) = true := by rw [beq_iff_eq]; exact hr
            have erd : decide (r.2 = 0) = true := decide_eq_true hr
            clear hr
            go_wp2_with fail
            refine (sameT_any r.1 _ _ _ HE4.out HE5.out (by have := HFR.out.2.2.2.1; omega)).mono ?_
            rintro e w5 ⟨rfl, hb5⟩
            have HL3 := Lib.hid (HL2.out.keep hb5)
            have HE6 := Lib.hid (HE4.out.keep hb5)
            have HE7 := Lib.hid (HE5.out.keep hb5)
            have HK6 := Lib.hid (HK4.out.below hb5 HK4.out.lt)
            have HK7 := Lib.hid (HK5.out.below hb5 HK5.out.lt)
            clear d3 d5 l3 l5 hb5
            obtain ⟨d3, _⟩ := HK6.out.cell
            obtain ⟨d5, _⟩ := HK7.out.cell
            obtain ⟨cB, zB⟩ := HL3.out.box1.cell
            obtain ⟨cC, zC⟩ := HL3.out.box2.cell
            unfold lnC at d3 d5 cB cC
            have hB3 := HL3.out.box1.lt
            have hC3 := HL3.out.box2.lt
            have n1 : g3 ≠ w1.heap.size := by have := HB1.out; have := HG3.out; omega
            have n2 : g3 ≠ w1.heap.size + 1 := by have := HL0.out.box2.lt; have := HG3.out; omega
            have n3 : g5 ≠ w1.heap.size := by have := HL1.out.box1.lt; have := HG5.out; omega
            have n4 : g5 ≠ w1.heap.size + 1 := by have := HL1.out.box2.lt; have := HG5.out; omega
            go_wp2_with fail
            go_region
            go_wp2_with fail
            refine ⟨⟨k + 1, r.1, .slice A3 r.1.before.length c3, .slice A5 r.1.before.length c5, by omega, by go_num, ?_⟩, by simp [intOf]; omega⟩
            exact (klines_set HL3.out HB.out HFR.out HE6.out HE7.out HF3.out HF5.out).keep ((Below.refl _ _).drew)
          · have er : (r.2 == 0) = false := by rw [beq_eq_false_iff_ne]; exact hr
            clear hr
            go_wp2_with fail
            refine ⟨⟨k + 1, l, v, u, by omega, by go_num, HL2.out⟩, by simp [intOf]; omega⟩
    · go_wp2
      go_ret
      exact ⟨rfl, HL.out.below⟩

end Go.Proofs.YtokmiommhfbkeaaGreatDoor
