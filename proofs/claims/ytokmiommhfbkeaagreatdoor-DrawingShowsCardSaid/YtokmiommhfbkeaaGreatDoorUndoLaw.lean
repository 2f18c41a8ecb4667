/- Lines that are made by keys: they stay good, and undoing leads back. No program in sight. -/
import Derived.Test.YtokmiommhfbkeaaGreatDoorEditE
namespace Go.Proofs.YtokmiommhfbkeaaGreatDoor
open Go.RowKit

/-- no byte of a text is zero or a line feed -/
def Cl (s : ByteArray) : Prop := ∀ c ∈ s.data.toList, c ≠ 0 ∧ c ≠ 10
theorem zn_has (c : UInt8) : zn.data.toList.contains c = (c == 0 || c == 10) := by
  rw [show zn.data.toList = [0, 10] from rfl, Bool.eq_iff_iff]; simp
theorem indexAny_neg (l cs : List UInt8) : Lib.indexAny l cs < 0 ↔ ∀ c ∈ l, cs.contains c = false := by
  induction l with
  | nil => simp [Lib.indexAny]
  | cons b r ih =>
    have hge := Lib.indexAny_ge cs r
    cases hb : cs.contains b
    · rw [Lib.indexAny, if_neg (by rw [hb]; exact Bool.false_ne_true)]
      constructor
      · intro h c hc
        rcases List.mem_cons.1 hc with rfl | hc
        · exact hb
        · refine ih.1 ?_ c hc
          split at h
          · rename_i he; have := beq_iff_eq.1 he; omega
          · omega
      · intro h
        have := ih.2 fun c hc => h c (List.mem_cons_of_mem _ hc)
        rw [if_pos (by rw [beq_iff_eq]; omega)]; omega
    · rw [Lib.indexAny, if_pos hb]
      constructor
      · intro h; omega
      · intro h; have := h b (by simp); rw [hb] at this; cases this
theorem cleanB_iff (l : List UInt8) : cleanB l = true ↔ ∀ c ∈ l, c ≠ 0 ∧ c ≠ 10 := by
  unfold cleanB
  rw [decide_eq_true_iff, indexAny_neg]
  constructor
  · intro h c hc
    have := h c hc
    rw [zn_has] at this
    simpa using this
  · intro h c hc
    rw [zn_has]; simpa using h c hc
def LN (s : ByteArray) : Prop := s.size ≤ 1000 ∧ Cl s
theorem lineB_iff (s : ByteArray) : lineB s = true ↔ LN s := by
  unfold lineB LN Cl
  rw [Bool.and_eq_true, decide_eq_true_iff, cleanB_iff]
theorem Cl.cut {s : ByteArray} (h : Cl s) (i j : Nat) : Cl (s.extract i j) := fun c hc => by
  rw [Lib.extract_data] at hc
  exact h c (List.mem_of_mem_drop (List.mem_of_mem_take hc))
theorem Cl.app {s t : ByteArray} (h : Cl s) (k : Cl t) : Cl (s ++ t) := fun c hc => by
  rw [ByteArray.data_append, Array.toList_append, List.mem_append] at hc
  rcases hc with hc | hc
  · exact h c hc
  · exact k c hc
theorem size_ex (s : ByteArray) (i j : Nat) : (s.extract i j).size = min j s.size - i := ByteArray.size_extract

/-- what a key turns of a line stays good -/
def GD (d : ED) : Prop := d.a ≤ d.text.size ∧ LN d.text ∧ LN d.killed
theorem insD_good {d : ED} {s : ByteArray} (h : GD d) (hs : Cl s) : GD (insD s d) := by
  obtain ⟨h1, ⟨h2, h3⟩, h4⟩ := h
  unfold insD
  split
  · rename_i hle
    refine ⟨?_, ⟨?_, ((h3.cut _ _).app hs).app (h3.cut _ _)⟩, h4⟩
    · simp only [ByteArray.size_append, size_ex]; omega
    · simp only [ByteArray.size_append, size_ex]; omega
  · exact ⟨h1, ⟨h2, h3⟩, h4⟩
theorem cutT_good {t : ByteArray} {i j : Nat} (h : LN t) (hij : i ≤ j) (hj : j ≤ t.size) : LN (cutT t i j) ∧ i ≤ (cutT t i j).size := by
  obtain ⟨h2, h3⟩ := h
  unfold cutT
  refine ⟨⟨?_, (h3.cut _ _).app (h3.cut _ _)⟩, ?_⟩
  · simp only [ByteArray.size_append, size_ex]; omega
  · simp only [ByteArray.size_append, size_ex]; omega
theorem eraD_good {d : ED} {i j : Nat} (h : GD d) (hij : i ≤ j) (hj : j ≤ d.text.size) : GD (eraD i j d) := by
  have := cutT_good h.2.1 hij hj
  exact ⟨this.2, this.1, h.2.2⟩
theorem keptT_good {k s : ByteArray} (b : Bool) (h : Cl k) (hs : Cl s) : LN (keptT k s b) := by
  unfold keptT
  split
  · exact ⟨by simp only [size_ex, ByteArray.size_append]; omega, (h.app hs).cut _ _⟩
  · exact ⟨by simp only [size_ex, ByteArray.size_append]; omega, (hs.app h).cut _ _⟩
theorem killD_good {d : ED} {i j : Nat} (was : Bool) (h : GD d) (hij : i ≤ j) (hj : j ≤ d.text.size) : GD (killD i j was d) := by
  have hc := cutT_good h.2.1 hij hj
  unfold killD
  split
  · exact h
  · refine ⟨hc.2, hc.1, ?_⟩
    dsimp only
    split
    · exact keptT_good _ h.2.2.2 (h.2.1.2.cut _ _)
    · exact ⟨by rw [size_ex]; have := h.2.1.1; omega, h.2.1.2.cut _ _⟩
theorem swapT_good {t : ByteArray} {k : Nat} (h : LN t) (hk : k + 2 ≤ t.size) : LN (swapT t k) ∧ (swapT t k).size = t.size := by
  obtain ⟨h2, h3⟩ := h
  have hz : (swapT t k).size = t.size := by
    unfold swapT; simp only [ByteArray.size_append, size_ex]; omega
  exact ⟨⟨by omega, (((h3.cut _ _).app (h3.cut _ _)).app (h3.cut _ _)).app (h3.cut _ _)⟩, hz⟩
theorem swapD_good {d : ED} (h : GD d) : GD (swapD d) := by
  obtain ⟨h1, h2, h4⟩ := h
  unfold swapD
  split
  · exact ⟨h1, h2, h4⟩
  · split
    · have := swapT_good (k := d.a - 2) h2 (by omega)
      exact ⟨by rw [this.2]; exact h1, this.1, h4⟩
    · have := swapT_good (k := d.a - 1) h2 (by omega)
      exact ⟨by dsimp only; rw [this.2]; omega, this.1, h4⟩
theorem letter_clean (c : UInt8) (h : letB c = true) : (upC c ≠ 0 ∧ upC c ≠ 10) ∧ (lowC c ≠ 0 ∧ lowC c ≠ 10) := by
  have : ∀ u : Fin 256, letB (UInt8.ofNat u.val) = true → (upC (UInt8.ofNat u.val) ≠ 0 ∧ upC (UInt8.ofNat u.val) ≠ 10) ∧ (lowC (UInt8.ofNat u.val) ≠ 0 ∧ lowC (UInt8.ofNat u.val) ≠ 10) := by decide +kernel
  have h2 := this ⟨c.toNat, c.toNat_lt⟩
  simp only [UInt8.ofNat_toNat] at h2
  exact h2 h
theorem letL_clean (f r : Bool) (l : List UInt8) (h : ∀ c ∈ l, c ≠ 0 ∧ c ≠ 10) : ∀ c ∈ letL f r l, c ≠ 0 ∧ c ≠ 10 := by
  induction l generalizing f with
  | nil => intro c hc; simp [letL] at hc
  | cons b t ih =>
    have hb := h b (by simp)
    have ht : ∀ c ∈ t, c ≠ 0 ∧ c ≠ 10 := fun c hc => h c (List.mem_cons_of_mem _ hc)
    intro c hc
    unfold letL at hc
    split at hc
    · rename_i hl
      rcases List.mem_cons.1 hc with rfl | hc
      · split
        · exact (letter_clean b hl).1
        · exact (letter_clean b hl).2
      · exact ih _ ht c hc
    · rcases List.mem_cons.1 hc with rfl | hc
      · exact hb
      · exact ih _ ht c hc
theorem lettersD_good {d : ED} (kind : Int) (h : GD d) : GD (lettersD kind d) := by
  obtain ⟨h1, ⟨h2, h3⟩, h4⟩ := h
  have hn1 := nextW_ge d.text d.a
  have hn2 := nextW_le d.text d.a h1
  have hz : (lettersT d.text kind d.a (nextW d.text d.a)).size = d.text.size := by
    rw [← size_toList, ← size_toList]
    exact letK_len _ _ _ _ _ hn1 (by rw [size_toList]; exact hn2)
  refine ⟨by show nextW d.text d.a ≤ _; rw [show (lettersD kind d).text = lettersT d.text kind d.a (nextW d.text d.a) from rfl, hz]; exact hn2, ⟨by rw [show (lettersD kind d).text = lettersT d.text kind d.a (nextW d.text d.a) from rfl, hz]; exact h2, ?_⟩, h4⟩
  intro c hc
  have hc : c ∈ d.text.data.toList.take d.a ++ (letL (decide (kind = 16) || decide (kind = 18)) (decide (kind = 16)) ((d.text.data.toList.take (nextW d.text d.a)).drop d.a) ++ d.text.data.toList.drop (nextW d.text d.a)) := hc
  rw [List.mem_append, List.mem_append] at hc
  rcases hc with hc | hc | hc
  · exact h3 c (List.mem_of_mem_take hc)
  · exact letL_clean _ _ _ (fun c hc => h3 c (List.mem_of_mem_take (List.mem_of_mem_drop hc))) c hc
  · exact h3 c (List.mem_of_mem_drop hc)
theorem byte_clean {kind byte : Int} (h : keyE kind byte = 0) (hk : kind = 1 ∨ kind = 22) : Cl ⟨#[UInt8.ofNat byte.toNat]⟩ := by
  intro c hc
  have hc : c = UInt8.ofNat byte.toNat := by simpa using hc
  subst hc
  have hb : 1 ≤ byte ∧ byte ≤ 255 ∧ byte ≠ 10 := by
    rcases hk with rfl | rfl
    · simp [keyE, withinB] at h; omega
    · simp [keyE, withinB] at h; omega
  have hn : (UInt8.ofNat byte.toNat).toNat = byte.toNat := by
    rw [UInt8.toNat_ofNat']; exact Nat.mod_eq_of_lt (by simp only [Nat.reducePow]; omega)
  refine ⟨fun e => ?_, fun e => ?_⟩
  · have h0 : (UInt8.ofNat byte.toNat).toNat = 0 := by rw [e]; rfl
    omega
  · have h0 : (UInt8.ofNat byte.toNat).toNat = 10 := by rw [e]; rfl
    omega
theorem actD_good {d : ED} {kind byte : Int} (was : Bool) (h : GD d) (hk : keyE kind byte = 0) : GD (actD kind byte was d) := by
  have h0 := h
  obtain ⟨h1, h2, h4⟩ := h
  have hr := keyE_kind hk
  have hor : kind = 1 ∨ kind = 2 ∨ kind = 3 ∨ kind = 4 ∨ kind = 5 ∨ kind = 6 ∨ kind = 7 ∨ kind = 8 ∨ kind = 9 ∨ kind = 10 ∨ kind = 11 ∨ kind = 12 ∨ kind = 13 ∨ kind = 14 ∨ kind = 15 ∨ kind = 16 ∨ kind = 17 ∨ kind = 18 ∨ kind = 19 ∨ kind = 20 ∨ kind = 21 ∨ kind = 22 := by omega
  rcases hor with rfl | rfl | rfl | rfl | rfl | rfl | rfl | rfl | rfl | rfl | rfl | rfl | rfl | rfl | rfl | rfl | rfl | rfl | rfl | rfl | rfl | rfl
  · exact insD_good h0 (byte_clean hk (.inl rfl))
  · exact ⟨by show d.a - 1 ≤ _; exact Nat.le_trans (Nat.sub_le _ _) h1, h2, h4⟩
  · exact ⟨Nat.min_le_right _ _, h2, h4⟩
  · exact ⟨Nat.zero_le _, h2, h4⟩
  · exact ⟨Nat.le_refl _, h2, h4⟩
  · show GD (if 0 < d.a then eraD (d.a - 1) d.a d else d)
    split
    · exact eraD_good h0 (by omega) h1
    · exact h0
  · show GD (if d.a < d.text.size then eraD d.a (d.a + 1) d else d)
    split
    · exact eraD_good h0 (by omega) (by omega)
    · exact h0
  · exact killD_good was h0 h1 (Nat.le_refl _)
  · exact killD_good was h0 (Nat.zero_le _) h1
  · exact killD_good was h0 (backW_le _ _) h1
  · exact killD_good was h0 (nextW_ge _ _) (nextW_le _ _ h1)
  · exact insD_good h0 h4.2
  · exact swapD_good h0
  · exact ⟨Nat.le_trans (backW_le _ _) h1, h2, h4⟩
  · exact ⟨nextW_le _ _ h1, h2, h4⟩
  · exact lettersD_good 16 h0
  · exact lettersD_good 17 h0
  · exact lettersD_good 18 h0
  · exact h0
  · exact h0
  · exact h0
  · exact insD_good h0 (byte_clean hk (.inr rfl))

theorem nil_or_snoc' {α : Type} (l : List α) : l = [] ∨ ∃ p x, l = p ++ [x] := by
  rcases List.eq_nil_or_concat l with h | ⟨p, x, h⟩
  · exact .inl h
  · exact .inr ⟨p, x, by rw [h, List.concat_eq_append]⟩
/-- a good line -/
structure GL (l : EL) : Prop where
  at0 : 0 ≤ l.at'
  at1 : l.at' ≤ l.text.size
  text : LN l.text
  begun : LN l.begun
  killed : LN l.killed
  state : ∀ s ∈ l.before, LN s.1 ∧ 0 ≤ s.2 ∧ s.2 ≤ s.1.size
theorem goodB_iff (l : EL) : goodB l = true ↔ GL l := by
  unfold goodB
  simp only [Bool.and_eq_true, List.all_eq_true, lineB_iff, stateB, withinB, decide_eq_true_eq]
  constructor
  · rintro ⟨⟨⟨⟨⟨h1, h2⟩, h3⟩, h4⟩, h5⟩, h6⟩
    exact ⟨h1, h2, h3, h4, h5, fun s hs => by have := h6 s hs; exact ⟨this.1, this.2.1, this.2.2⟩⟩
  · rintro ⟨h1, h2, h3, h4, h5, h6⟩
    exact ⟨⟨⟨⟨⟨h1, h2⟩, h3⟩, h4⟩, h5⟩, fun s hs => by have := h6 s hs; exact ⟨this.1, this.2.1, this.2.2⟩⟩
theorem noted_sub (l : EL) : ∀ s ∈ noted l, s ∈ l.before ∨ s = (l.text, l.at') := fun s hs => by
  have := List.mem_of_mem_drop (show s ∈ (l.before ++ [(l.text, l.at')]).drop (l.before.length + 1 - 100) from hs)
  simpa using this
theorem change_good {l : EL} {kind byte : Int} (h : GL l) (hk : keyE kind byte = 0) : GL (changeL l kind byte) := by
  have hd := actD_good (d := ⟨l.text, l.at'.toNat, l.killed, false⟩) l.killing ⟨by have := h.at0; have := h.at1; show l.at'.toNat ≤ l.text.size; omega, h.text, h.killed⟩ hk
  unfold changeL
  generalize actD kind byte l.killing ⟨l.text, l.at'.toNat, l.killed, false⟩ = d at *
  refine ⟨Int.natCast_nonneg _, Int.ofNat_le.2 hd.1, hd.2.1, h.begun, hd.2.2, fun s hs => ?_⟩
  dsimp only at hs
  split at hs
  · exact h.state s hs
  · rcases noted_sub l s hs with hs | rfl
    · exact h.state s hs
    · exact ⟨h.text, h.at0, h.at1⟩
/-- undoing leads to the empty line -/
def Lead (l : EL) : Prop := (l.before = [] → l.text = ⟨#[]⟩ ∧ l.at' = 0) ∧ ∀ b r, l.before = b :: r → b = (⟨#[]⟩, 0)
theorem change_lead {l : EL} {kind byte : Int} (h : GL l) (hk : keyE kind byte = 0) (hn : l.before.length < 100) (hl : Lead l) : Lead (changeL l kind byte) ∧ (changeL l kind byte).before.length ≤ l.before.length + 1 ∧ (changeL l kind byte).place = l.place := by
  have hg := change_good h hk
  have hb : (changeL l kind byte).before = if (changeL l kind byte).text = l.text ∨ (kind = 1 ∧ goesL l = true) then l.before else noted l := rfl
  have hp : (changeL l kind byte).place = l.place := rfl
  generalize changeL l kind byte = m at *
  have hno : noted l = l.before ++ [(l.text, l.at')] := by unfold noted; rw [show l.before.length + 1 - 100 = 0 by omega]; rfl
  rw [hno] at hb
  by_cases hc : m.text = l.text ∨ (kind = 1 ∧ goesL l = true)
  · rw [if_pos hc] at hb
    refine ⟨⟨fun he => ?_, fun b r he => hl.2 b r (by rw [← hb]; exact he)⟩, by rw [hb]; omega, hp⟩
    have he2 : l.before = [] := by rw [← hb]; exact he
    have ht : m.text = l.text := by
      rcases hc with hc | ⟨_, hc⟩
      · exact hc
      · simp [goesL, he2] at hc
    have h1 := hl.1 he2
    rw [h1.1] at ht
    refine ⟨ht, ?_⟩
    have h2 := hg.at0
    have h3 := hg.at1
    rw [ht] at h3
    have h3 : m.at' ≤ 0 := h3
    omega
  · rw [if_neg hc] at hb
    refine ⟨⟨fun he => ?_, fun b r he => ?_⟩, by rw [hb]; simp, hp⟩
    · rw [hb] at he; simp at he
    · rw [hb] at he
      cases hbf : l.before with
      | nil =>
        rw [hbf] at he
        simp at he
        have h1 := hl.1 hbf
        rw [← he.1, h1.1, h1.2]
      | cons c q =>
        rw [hbf] at he
        simp at he
        rw [← he.1]
        exact hl.2 c q hbf
theorem undo_lead {l : EL} (h : GL l) (hl : Lead l) : GL (undoL { l with killing := false }) ∧ Lead (undoL { l with killing := false }) ∧ (undoL { l with killing := false }).before.length = l.before.length - 1 ∧ (undoL { l with killing := false }).place = l.place := by
  unfold undoL
  rcases nil_or_snoc' l.before with hb | ⟨p, x, hb⟩
  · simp only [hb, List.getLast?_nil]
    exact ⟨⟨h.at0, h.at1, h.text, h.begun, h.killed, by simp⟩, ⟨fun _ => hl.1 hb, fun b r he => by simp at he⟩, by simp, trivial⟩
  · simp only [hb, List.getLast?_append, List.getLast?_singleton, Option.some_or, List.dropLast_concat]
    have hx := h.state x (by rw [hb]; simp)
    refine ⟨⟨hx.2.1, hx.2.2, hx.1, h.begun, h.killed, fun s hs => h.state s (by rw [hb]; exact List.mem_append_left _ hs)⟩, ⟨fun he => ?_, fun b r he => ?_⟩, by simp, trivial⟩
    · have he : p = [] := he
      have := hl.2 x [] (by rw [hb, he]; rfl)
      rw [this]; exact ⟨rfl, rfl⟩
    · have he : p = b :: r := he
      exact hl.2 b (r ++ [x]) (by rw [hb, he]; rfl)

end Go.Proofs.YtokmiommhfbkeaaGreatDoor
