/- QuoteIsConst: one piece of a word, or a byte of one. -/
import Derived.Test.YtonejkomggpbbabGreatDoorQtPc
namespace Go.Proofs.YtonejkomggpbbabGreatDoor
open Go.RowKit Go.Shelf

/-- nothing but blocks b and y and what is new since B has changed -/
structure Fr2 (B b y : Nat) (w w' : World) : Prop where
  os : w'.os = w.os
  tape : w'.tape = w.tape
  output : w'.output = w.output
  size : w.heap.size ≤ w'.heap.size
  block : ∀ k, k < B → k ≠ b → k ≠ y → w'.heap[k]? = w.heap[k]?
theorem Fr2.refl (B b y : Nat) (w : World) : Fr2 B b y w w := ⟨rfl, rfl, rfl, Nat.le_refl _, fun _ _ _ _ => rfl⟩
theorem Fr2.trans {B b y : Nat} {w a w' : World} (h : Fr2 B b y w a) (k : Fr2 B b y a w') : Fr2 B b y w w' :=
  ⟨k.os.trans h.os, k.tape.trans h.tape, k.output.trans h.output, Nat.le_trans h.size k.size, fun i hi hb hy => (k.block i hi hb hy).trans (h.block i hi hb hy)⟩
theorem Fr2.only {B b y : Nat} {w a w' : World} (h : Fr2 B b y w a) (k : Only b a w') (hB : B ≤ a.heap.size) : Fr2 B b y w w' :=
  h.trans ⟨k.os, k.tape, k.output, k.size, fun i hi hb _ => k.block i (Nat.lt_of_lt_of_le hi hB) hb⟩
theorem Fr2.rest {B b y : Nat} {w a w' : World} (h : Fr2 B b y w a) (k : Rest B y a w') : Fr2 B b y w w' :=
  h.trans ⟨k.os, k.tape, k.output, k.size, fun i hi _ hy => k.block i hi hy⟩
/-- a byte more, whatever was last -/
theorem byte_any (B y : Nat) (v : Value) (L : List KT) (c : UInt8) (w : World) (h : BQ B y v L w) (hn : L.length ≤ 1000000) (ht : (catQ L).length ≤ 1000000) (hk : kindQ L) :
    Calls Tryz.prog 70 #[.pointer (some ⟨y, 0, none⟩), .int .i64 1, .int .u8 (c.toNat : Int)] w fun e w' => e = .returned (.tuple #[]) ∧ ∃ v' L', BQ B y v' L' w' ∧ Rest B y w w' ∧ catQ L' = catQ L ++ [c] ∧ kindQ L' ∧ L'.length ≤ L.length + 1 := by
  rcases List.eq_nil_or_concat L with rfl | ⟨M, ⟨k, t⟩, hL⟩
  · refine (byte_new B y v [] c w h (.inl rfl) hn).mono ?_
    rintro e w' ⟨rfl, v', hb, hr⟩
    refine ⟨rfl, v', _, hb, hr, by simp [catQ], fun p hp => ?_, by simp⟩
    simp at hp; subst hp; exact .inl rfl
  · rw [List.concat_eq_append] at hL
    subst hL
    by_cases h1 : k = 1
    · subst h1
      have hlt : t.length ≤ 1000000 := by
        rw [catQ_app, catQ_one, List.length_append] at ht
        omega
      refine (byte_same B y v M t c w h (by simp at hn; omega) hlt).mono ?_
      rintro e w' ⟨rfl, v', hb, hr⟩
      refine ⟨rfl, v', _, hb, hr, by rw [catQ_app, catQ_app, catQ_one, catQ_one, List.append_assoc], fun p hp => ?_, by simp⟩
      rcases List.mem_append.1 hp with hp | hp
      · exact hk p (List.mem_append_left _ hp)
      · rw [List.mem_singleton.1 hp]; exact .inl rfl
    · refine (byte_new B y v _ c w h (.inr ⟨M, k, t, rfl, h1⟩) hn).mono ?_
      rintro e w' ⟨rfl, v', hb, hr⟩
      refine ⟨rfl, v', _, hb, hr, by rw [catQ_app _ [((1 : Int), [c])], catQ_one], fun p hp => ?_, by simp⟩
      rcases List.mem_append.1 hp with hp | hp
      · exact hk p hp
      · rw [List.mem_singleton.1 hp]; exact .inl rfl
/-- what a step gives -/
def PcG (B b y : Nat) (T l : List UInt8) (L : List KT) (w : World) (S : List UInt8) (e : Ending) (w' : World) : Prop :=
  e = .returned (.tuple #[]) ∧ ∃ v' L' l' s', Rd w' b T l' ∧ BQ B y v' L' w' ∧ Fr2 B b y w w' ∧ QR l' s' ∧ catQ L' ++ s' = S ∧ l'.length < l.length ∧ kindQ L' ∧ L'.length ≤ L.length + 1
set_option maxRecDepth 100000 in
set_option maxHeartbeats 3200000 in
theorem piece_bare (B b y : Nat) (T l s : List UInt8) (c : UInt8) (v : Value) (L : List KT) (w : World) (h : Rd w b T (c :: l)) (hc : plB c = true) (hq : QR l s) (hQ : BQ B y v L w) (hb : b < B) (hy : b ≠ y) (hn : L.length ≤ 1000000) (ht : (catQ L).length ≤ 1000000) (hk : kindQ L) :
    Calls Tryz.prog 43 #[.pointer (some ⟨b, 0, none⟩), .pointer (some ⟨y, 0, none⟩)] w (PcG B b y T (c :: l) L w (catQ L ++ c :: s)) := by
  have HQ0 := Lib.hid (QR.bare c l s hc hq)
  have hsk := qr_skip HQ0.out
  have HPk := Lib.hid (peek_any b T (c :: l) w h)
  unfold PeekGives at HPk
  rw [hsk] at HPk
  have HSk := Lib.hid hsk
  have HQB := Lib.hid hQ
  have HKd := Lib.hid hk
  have HQR := Lib.hid hq
  obtain ⟨n1, n2, n3, n4, n5, n6⟩ := plB_not c hc
  have hne : ∀ k : UInt8, c ≠ k → ((c.toNat : Int) == (k.toNat : Int)) = false := fun k hk => by
    rw [beq_eq_false_iff_ne]
    intro e
    exact hk (UInt8.toNat.inj (by omega))
  have e1 : ((c.toNat : Int) == 92) = false := hne 92 n3
  have e2 : ((c.toNat : Int) == 39) = false := hne 39 n2
  have e3 : ((c.toNat : Int) == 34) = false := hne 34 n4
  have e4 : ((c.toNat : Int) == 36) = false := hne 36 n5
  have e5 : ((c.toNat : Int) == 96) = false := hne 96 n6
  obtain ⟨Q, hQQ⟩ : ∃ Q, PcG B b y T (c :: l) L w (catQ L ++ c :: s) = Q := ⟨_, rfl⟩
  rw [hQQ]
  have HQ := Lib.hid hQQ
  clear h hQ hk hq hsk hne n1 n2 n3 n4 n5 n6 hQQ
  go_enter Tryz.func43, Tryz.ntmps43
  go_wp2_with fail
  refine HPk.out.mono ?_
  rintro e w1 ⟨rfl, hr1, ho1⟩
  have HQ1 := Lib.hid (HQB.out.only ho1 hb hy)
  have HF1 := Lib.hid ((Fr2.refl B b y w).only ho1 HQB.out.le)
  have HN := Lib.hid (next_any b T (c :: l) c l w1 hr1 HSk.out)
  unfold NextGives at HN
  rw [show headI (c :: l) = (c.toNat : Int) from rfl]
  clear hr1 ho1
  go_wp2_with fail
  refine HN.out.mono ?_
  rintro e w2 ⟨rfl, hr2, ho2⟩
  have HQ2 := Lib.hid (HQ1.out.only ho2 hb hy)
  have HF2 := Lib.hid (HF1.out.only ho2 HQ1.out.le)
  have HR2 := Lib.hid hr2
  have HBy := Lib.hid (byte_any B y v L c w2 HQ2.out hn ht HKd.out)
  clear hr2 ho2
  go_wp2_with fail
  refine HBy.out.mono ?_
  rintro e w3 ⟨rfl, v', L', hb3, hr3, hcat, hkd, hlen⟩
  have HZ := Lib.hid (show PcG B b y T (c :: l) L w (catQ L ++ c :: s) (.returned (.tuple #[])) w3 from ⟨rfl, v', L', l, s, HR2.out.rest hr3 hb hy, hb3, HF2.out.rest hr3, HQR.out, by rw [hcat]; simp, by simp, hkd, hlen⟩)
  clear hb3 hr3 hcat hkd hlen
  go_wp2_with fail
  go_end0
  rw [← HQ.out]
  exact HZ.out
end Go.Proofs.YtonejkomggpbbabGreatDoor
