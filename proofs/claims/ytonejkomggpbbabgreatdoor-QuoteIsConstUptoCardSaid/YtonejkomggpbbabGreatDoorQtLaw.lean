/- QuoteIsConst, plain: what a text in quotes is read as. -/
import Derived.Test.YtonejkomggpbbabGreatDoorArRead
import Derived.Lib.Replace
namespace Go.Proofs.YtonejkomggpbbabGreatDoor
open Go.RowKit Go.Shelf

theorem all_u8 {P : UInt8 → Prop} [DecidablePred P] (h : ((List.range 256).all fun n => decide (P n.toUInt8)) = true) (c : UInt8) : P c := by
  have h2 := List.all_eq_true.1 h c.toNat (List.mem_range.2 c.toNat_lt)
  have h3 : c.toNat.toUInt8 = c := by simp
  rw [h3] at h2
  exact of_decide_eq_true h2
theorem skip_head {c : UInt8} (l : List UInt8) (h : c ≠ 92) : skipJ (c :: l) = c :: l := by
  cases l with
  | nil => rfl
  | cons b r => rw [skipJ, if_neg (fun e => h e.1)]
/-- bytes that want no quotes: letters, digits, and _-./,:+%@^ -/
def signsQ : List UInt8 := [95, 45, 46, 47, 44, 58, 43, 37, 64, 94]
def plB (c : UInt8) : Bool := isL c || isD c || signsQ.contains c
/-- each quote of a text as a quote, a backslash, a quote and a quote -/
def esc : List UInt8 → List UInt8
  | [] => []
  | c :: r => if c = 39 then 39 :: 92 :: 39 :: 39 :: esc r else c :: esc r
def reservedQ : List (List UInt8) := [[105, 102], [116, 104, 101, 110], [101, 108, 105, 102], [101, 108, 115, 101], [102, 105], [119, 104, 105, 108, 101], [117, 110, 116, 105, 108], [102, 111, 114], [100, 111], [100, 111, 110, 101], [99, 97, 115, 101], [101, 115, 97, 99], [123], [125], [33]]
def bareQ (s : List UInt8) : Bool := !s.isEmpty && !reservedQ.contains s && s.all plB
def quo (s : List UInt8) : List UInt8 := if bareQ s then s else 39 :: (esc s ++ [39])

/-- a text that is read as a word whose constant is the second text -/
inductive QR : List UInt8 → List UInt8 → Prop
  | nil : QR [] []
  | bare (c : UInt8) (l s : List UInt8) : plB c = true → QR l s → QR (c :: l) (c :: s)
  | one (t l s : List UInt8) : (39 : UInt8) ∉ t → QR l s → QR (39 :: (t ++ 39 :: l)) (t ++ s)
  | back (l s : List UInt8) : QR l s → QR (92 :: 39 :: l) (39 :: s)

theorem qr_esc : ∀ (s t : List UInt8), (39 : UInt8) ∉ t → QR (39 :: (t ++ (esc s ++ [39]))) (t ++ s)
  | [], t, ht => QR.one t [] [] ht .nil
  | c :: r, t, ht => by
    by_cases hc : c = 39
    · subst hc
      have h := QR.one t _ _ ht (QR.back _ _ (qr_esc r [] (by simp)))
      simpa [esc] using h
    · have h := qr_esc r (t ++ [c]) (by simp [ht]; exact fun e => hc e.symm)
      simpa [esc, hc] using h
theorem qr_all : ∀ (s : List UInt8), s.all plB = true → QR s s
  | [], _ => .nil
  | c :: r, h => by
    simp only [List.all_cons, Bool.and_eq_true] at h
    exact .bare c r r h.1 (qr_all r h.2)
theorem qr_quo (s : List UInt8) : QR (quo s) s := by
  unfold quo
  by_cases h : bareQ s = true
  · rw [if_pos h]
    unfold bareQ at h
    simp only [Bool.and_eq_true] at h
    exact qr_all s h.2
  · rw [if_neg h]
    simpa using qr_esc s [] (by simp)
theorem quo_ne (s : List UInt8) : quo s ≠ [] := by
  unfold quo
  by_cases h : bareQ s = true
  · rw [if_pos h]
    rintro rfl
    exact absurd h (by decide)
  · rw [if_neg h]
    simp

/-- bytes at which a word ends, and comments -/
def stopB (c : UInt8) : Bool := ([32, 9, 10, 59, 38, 124, 60, 62, 40, 41, 35] : List UInt8).contains c
theorem plB_not (c : UInt8) (h : plB c = true) : stopB c = false ∧ c ≠ 39 ∧ c ≠ 92 ∧ c ≠ 34 ∧ c ≠ 36 ∧ c ≠ 96 := by
  exact all_u8 (P := fun c => plB c = true → stopB c = false ∧ c ≠ 39 ∧ c ≠ 92 ∧ c ≠ 34 ∧ c ≠ 36 ∧ c ≠ 96) (by decide +kernel) c h
theorem qr_head {c : UInt8} {l s : List UInt8} (h : QR (c :: l) s) : stopB c = false := by
  cases h with
  | bare _ _ s hc _ => exact (plB_not c hc).1
  | one => decide
  | back => decide
theorem qr_skip {l s : List UInt8} (h : QR l s) : skipJ l = l := by
  cases h with
  | nil => rfl
  | bare c l s hc _ => exact skip_head _ (plB_not c hc).2.2.1
  | one => exact skip_head _ (by decide)
  | back l s _ => rw [skipJ, if_neg (by decide)]
theorem ib39 : ∀ (s : List UInt8), (Lib.indexByte s 39 = -1 ∧ (39 : UInt8) ∉ s) ∨ ∃ t r, (39 : UInt8) ∉ t ∧ s = t ++ 39 :: r ∧ Lib.indexByte s 39 = (t.length : Int)
  | [] => .inl ⟨rfl, by simp⟩
  | b :: l => by
    by_cases hb : b = 39
    · subst hb; exact .inr ⟨[], l, by simp, rfl, rfl⟩
    · rcases ib39 l with ⟨h1, h2⟩ | ⟨t, r, h1, h2, h3⟩
      · refine .inl ⟨?_, ?_⟩
        · unfold Lib.indexByte; rw [if_neg (by simpa using hb), if_pos (by simp [h1])]
        · simp [h2]; exact fun e => hb e.symm
      · refine .inr ⟨b :: t, r, ?_, by rw [h2]; rfl, ?_⟩
        · simp [h1]; exact fun e => hb e.symm
        · unfold Lib.indexByte; rw [if_neg (by simpa using hb), h3, if_neg (by simp)]; simp
theorem esc_none : ∀ {s : List UInt8}, (39 : UInt8) ∉ s → esc s = s
  | [], _ => rfl
  | c :: r, h => by
    simp only [List.mem_cons, not_or] at h
    unfold esc
    rw [if_neg (fun e => h.1 e.symm), esc_none h.2]
theorem esc_app : ∀ (t r : List UInt8), (39 : UInt8) ∉ t → esc (t ++ 39 :: r) = t ++ [39, 92, 39, 39] ++ esc r
  | [], r, _ => by simp [esc]
  | c :: t, r, h => by
    simp only [List.mem_cons, not_or] at h
    rw [List.cons_append, esc, if_neg (fun e => h.1 e.symm), esc_app t r h.2]
    rfl
theorem rep_esc : ∀ (n : Nat) (s : List UInt8), s.length ≤ n → Lib.replaceK [39] [39, 92, 39, 39] (Lib.count s [39]) s = esc s
  | n, s, hn => by
    rcases ib39 s with ⟨h1, h2⟩ | ⟨t, r, h1, h2, h3⟩
    · rw [Lib.count_miss ((Lib.index_one s 39).trans h1)]; exact (esc_none h2).symm
    · have hi := (Lib.index_one s 39).trans h3
      rw [Lib.count_hit (by simp) hi, Nat.add_comm, Lib.replaceK_hit _ _ _ _ _ hi]
      cases n with
      | zero => subst h2; simp at hn
      | succ n =>
        have hd : s.drop (t.length + [(39 : UInt8)].length) = r := by subst h2; simp
        rw [hd, rep_esc n r (by subst h2; simp at hn; omega)]
        subst h2
        rw [esc_app t r h1]
        simp
theorem replaceAll_esc (s : List UInt8) : Lib.replaceAll s [39] [39, 92, 39, 39] = esc s := by
  unfold Lib.replaceAll Lib.replace Lib.replaceNum
  rw [if_neg (by decide), if_pos (Or.inl (by decide))]
  exact rep_esc _ s (Nat.le_refl _)
theorem esc_len : ∀ (s : List UInt8), (esc s).length ≤ 4 * s.length
  | [] => Nat.le_refl _
  | c :: r => by
    have := esc_len r
    unfold esc
    split <;> simp <;> omega

/-- what the closure of Quote tells of a rune: whether it wants quotes -/
def pN (x : Nat) : Bool := !(decide (x < 128) && plB x.toUInt8)
theorem plB_high (c : UInt8) (h : 128 ≤ c.toNat) : plB c = false := by
  exact all_u8 (P := fun c => 128 ≤ c.toNat → plB c = false) (by decide +kernel) c h

/-- a piece that has been read: its kind and its text -/
abbrev KT := Int × List UInt8
def catQ (L : List KT) : List UInt8 := (L.map Prod.snd).flatten
def kindQ (L : List KT) : Prop := ∀ p ∈ L, p.1 = 1 ∨ p.1 = 2 ∨ p.1 = 3
/-- one byte more of a piece of a kind -/
def putQ (L : List KT) (c : UInt8) : List KT := match L.reverse with
  | (1, t) :: r => (r.reverse) ++ [(1, t ++ [c])]
  | _ => L ++ [(1, [c])]
theorem putQ_same (L : List KT) (t : List UInt8) (c : UInt8) : putQ (L ++ [(1, t)]) c = L ++ [(1, t ++ [c])] := by
  simp [putQ]
theorem putQ_nil (c : UInt8) : putQ [] c = [(1, [c])] := rfl
theorem putQ_other (L : List KT) (k : Int) (t : List UInt8) (c : UInt8) (hk : k ≠ 1) : putQ (L ++ [(k, t)]) c = L ++ [(k, t)] ++ [(1, [c])] := by
  unfold putQ
  split
  · rename_i h
    simp at h
    exact absurd h.1.1 hk
  · rfl
theorem catQ_app (L M : List KT) : catQ (L ++ M) = catQ L ++ catQ M := by simp [catQ]
theorem catQ_one (k : Int) (t : List UInt8) : catQ [(k, t)] = t := by simp [catQ]
end Go.Proofs.YtonejkomggpbbabGreatDoor
