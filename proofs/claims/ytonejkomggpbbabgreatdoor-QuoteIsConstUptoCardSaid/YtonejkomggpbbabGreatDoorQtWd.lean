/- QuoteIsConst: a word is read. -/
import Derived.Test.YtonejkomggpbbabGreatDoorQtPe
namespace Go.Proofs.YtonejkomggpbbabGreatDoor
open Go.RowKit Go.Shelf

theorem qr_len {l s : List UInt8} (h : QR l s) : s.length ≤ l.length := by
  induction h with
  | nil => exact Nat.le_refl _
  | bare c l s _ _ ih => simpa using ih
  | one t l s _ _ ih => simp; omega
  | back l s _ ih => simp; omega
theorem piece_any (B b y : Nat) (T l s : List UInt8) (v : Value) (L : List KT) (w : World) (h : Rd w b T l) (hl : l ≠ []) (hq : QR l s) (hQ : BQ B y v L w) (hb : b < B) (hy : b ≠ y) (hn : L.length ≤ 1000000) (ht : (catQ L).length ≤ 1000000) (hk : kindQ L) :
    Calls Tryz.prog 43 #[.pointer (some ⟨b, 0, none⟩), .pointer (some ⟨y, 0, none⟩)] w (PcG B b y T l L w (catQ L ++ s)) := by
  cases hq with
  | nil => exact absurd rfl hl
  | bare c l s hc hq => exact piece_bare B b y T l s c v L w h hc hq hQ hb hy hn ht hk
  | one t l s h39 hq => exact piece_one B b y T t l s v L w h h39 hq hQ hb hy hn hk
  | back l s hq => exact piece_back B b y T l s v L w h hq hQ hb hy hn hk
def opsQ : List UInt8 := [10, 59, 38, 124, 60, 62, 40, 41]
theorem ops_none (c : UInt8) (h : stopB c = false) : ¬ (0 : Int) ≤ Lib.indexByte opsQ c ∧ isBB (c.toNat : Int) = false ∧ c ≠ 35 :=
  all_u8 (P := fun c => stopB c = false → ¬ (0 : Int) ≤ Lib.indexByte opsQ c ∧ isBB (c.toNat : Int) = false ∧ c ≠ 35) (by decide +kernel) c h
set_option maxHeartbeats 1600000 in
theorem isOperator_no (c : UInt8) (h : stopB c = false) (w : World) : Calls Tryz.prog 42 #[.int .i64 (c.toNat : Int)] w fun e w' => e = .returned (.bool false) ∧ w' = w := by
  have hc := c.toNat_lt
  have hne : ((c.toNat : Int) != -1) = true := by rw [bne_iff_ne]; omega
  have hw : IntKind.u8.wrap (c.toNat : Int) = (c.toNat : Int) := by simp [IntKind.wrap, IntKind.bits, IntKind.signed]; omega
  have hI := Tryz.strings_IndexByte ⟨#[10, 59, 38, 124, 60, 62, 40, 41]⟩ (c.toNat : Int) w
  rw [show ((c.toNat : Int)).toNat.toUInt8 = c by simp, show (⟨#[10, 59, 38, 124, 60, 62, 40, 41]⟩ : ByteArray).data.toList = opsQ from rfl] at hI
  have hno := (ops_none c h).1
  have HI := Lib.hid hI
  clear hI
  go_enter Tryz.func42, Tryz.ntmps42
  go_wp2_with (go_at_call 7; refine HI.out.mono ?_; rintro e w1 ⟨rfl, rfl⟩)
  go_ret
  exact ⟨ret_bool (decide_eq_false (by omega)), rfl⟩
theorem own_lower {w : World} {B B' n : Nat} {e : TypeId} {k : Nat} {v : Value} {xs : List Value} (h : w.ownsRow B e k v n xs) (hB : B' ≤ B) : w.ownsRow B' e k v n xs := by
  refine ⟨h.1, ?_⟩
  rcases h.2 with h0 | ⟨g, cap, cur, hv, hb, h3⟩
  · exact .inl h0
  · exact .inr ⟨g, cap, cur, hv, Nat.le_trans hB hb, h3⟩
/-- a word in memory -/
def WdG (b : Nat) (T s : List UInt8) (w : World) (n : Nat) (e : Ending) (w' : World) : Prop :=
  ∃ v L, e = .returned v ∧ kindQ L ∧ catQ L = s ∧ L.length ≤ n ∧ w'.ownsRow w.heap.size 68 6 v L.length (rowQ L) ∧ Rd w' b T [] ∧ Only b w w'
set_option maxRecDepth 100000 in
set_option maxHeartbeats 3200000 in
theorem word_any (b : Nat) (T l s : List UInt8) (w : World) (h : Rd w b T l) (hq : QR l s) (hlen : l.length ≤ 32768) :
    Calls Tryz.prog 29 #[.pointer (some ⟨b, 0, none⟩)] w (WdG b T s w l.length) := by
  have hbl := h.lt
  have hba := (Below.refl w.heap.size w).alloc (Nat.le_refl _) (.cells #[.slice none 0 0] 83)
  have hB : (w.alloc (.cells #[.slice none 0 0] 83)).heap.size = w.heap.size + 1 := by simp
  have HR := Lib.hid (h.keep hba)
  have HQ := Lib.hid (show BQ (w.heap.size + 1) w.heap.size (.slice none 0 0) [] (w.alloc (.cells #[.slice none 0 0] 83)) from ⟨One.new w _ _, World.ownsRow_nil _ _ _ _, by omega, by rw [hB]; exact Nat.le_refl _⟩)
  have HBa := Lib.hid hba
  have HSl := Lib.hid (qr_len hq)
  have HQR := Lib.hid hq
  obtain ⟨Q, hQQ⟩ : ∃ Q, WdG b T s w l.length = Q := ⟨_, rfl⟩
  rw [hQQ]
  have HP := Lib.hid hQQ
  have hby : b ≠ w.heap.size := by omega
  have hbB : b < w.heap.size + 1 := by omega
  clear h hba hB hq hQQ
  go_enter Tryz.func29, Tryz.ntmps29
  go_upto_region 2 with fail
  generalize w.alloc (.cells #[.slice none 0 0] 83) = w1 at *
  have HPk := Lib.hid (peek_any b T l w1 HR.out)
  unfold PeekGives at HPk
  rw [qr_skip HQR.out] at HPk
  go_wp2_with fail
  refine HPk.out.mono ?_
  rintro e w2 ⟨rfl, hr2, ho2⟩
  have HR2 := Lib.hid hr2
  have HQ2 := Lib.hid (HQ.out.only ho2 hbB hby)
  have HF2 := Lib.hid ((Fr2.refl (w.heap.size + 1) b w.heap.size w1).only ho2 HQ.out.le)
  clear hr2 ho2
  go_wp2_with fail
  go_loopw [4] (fun s4 wr => ∃ v L l' s', s4 = .int .i64 (headI l') ∧ Hid (Rd wr b T l') ∧ Hid (BQ (w.heap.size + 1) w.heap.size v L wr) ∧ Hid (Fr2 (w.heap.size + 1) b w.heap.size w1 wr) ∧ Hid (QR l' s') ∧ Hid (catQ L ++ s' = s) ∧ Hid (kindQ L) ∧ L.length + l'.length ≤ l.length) (fun _ wr => T.length - posOf wr b)
  case atStart => exact ⟨_, [], l, s, rfl, HR2, HQ2, HF2, HQR, Lib.hid rfl, Lib.hid (fun p hp => by cases hp), by simp⟩
  case round =>
    obtain ⟨v, L, l', s', rfl, HR3, HQ3, HF3, HQR3, HC3, HK3, hL3⟩ := hrel
    cases l' with
    | nil =>
      rw [show headI [] = -1 from rfl]
      have hc0 := HQ3.out.box.cell
      have hz0 := HQ3.out.box.fz
      go_wp2_with fail
      rw [← HP.out]
      have hs0 : s' = [] := by have := HQR3.out; cases this; rfl
      have hc := HC3.out
      rw [hs0, List.append_nil] at hc
      have hO : Only b w wr := ⟨HF3.out.os.trans HBa.out.os, HF3.out.tape.trans HBa.out.tape, HF3.out.output.trans HBa.out.output, Nat.le_trans HBa.out.size HF3.out.size, fun k hk hb => (HF3.out.block k (by omega) hb (by omega)).trans (HBa.out.block k hk)⟩
      have hown := HQ3.out.own
      exact ⟨v, L, rfl, HK3.out, hc, by simpa using hL3, own_lower hown (by omega), HR3.out, hO⟩
    | cons c r =>
      have hst := qr_head HQR3.out
      obtain ⟨_, hbl2, _⟩ := ops_none c hst
      have hc := c.toNat_lt
      have hne : ((c.toNat : Int) != -1) = true := by rw [bne_iff_ne]; omega
      have HBl := Lib.hid (isBlank_any (c.toNat : Int) wr)
      rw [hbl2] at HBl
      have HOp := Lib.hid (isOperator_no c hst wr)
      have hcl : (catQ L).length ≤ 1000000 := by
        have h1 := congrArg List.length HC3.out
        rw [List.length_append] at h1
        have h2 := HSl.out
        omega
      have hlr : (c :: r).length = r.length + 1 := rfl
      have HPc := Lib.hid (piece_any (w.heap.size + 1) b w.heap.size T (c :: r) s' v L wr HR3.out (by simp) HQR3.out HQ3.out hbB hby (by rw [hlr] at hL3; omega) hcl HK3.out)
      rw [HC3.out] at HPc
      rw [show headI (c :: r) = (c.toNat : Int) from rfl]
      have hpos := HR3.out.pos
      clear hst hcl
      go_wp2_with (first
        | (go_at_call 41; refine HBl.out.mono ?_; rintro e w4 ⟨rfl, rfl⟩)
        | (go_at_call 42; refine HOp.out.mono ?_; rintro e w4 ⟨rfl, rfl⟩))
      refine HPc.out.mono ?_
      rintro e w5 ⟨rfl, v5, L5, l5, s5, hr5, hq5, hf5, hqr5, hc5, hl5, hk5, hn5⟩
      have HR5 := Lib.hid hr5
      have HQ5 := Lib.hid hq5
      have HF5 := Lib.hid (HF3.out.trans hf5)
      have HQR5 := Lib.hid hqr5
      have HC5 := Lib.hid hc5
      have HK5 := Lib.hid hk5
      have HPk5 := Lib.hid (peek_any b T l5 w5 hr5)
      unfold PeekGives at HPk5
      rw [qr_skip hqr5] at HPk5
      clear hr5 hq5 hf5 hqr5 hc5 hk5
      go_wp2_with fail
      refine HPk5.out.mono ?_
      rintro e w6 ⟨rfl, hr6, ho6⟩
      have HR6 := Lib.hid hr6
      have HQ6 := Lib.hid (HQ5.out.only ho6 hbB hby)
      have HF6 := Lib.hid (HF5.out.only ho6 HQ5.out.le)
      have hpos6 := hr6.pos
      clear hr6 ho6
      go_wp2_with fail
      exact ⟨⟨v5, L5, l5, s5, rfl, HR6, HQ6, HF6, HQR5, HC5, HK5, by omega⟩, by rw [hlr] at hpos; omega⟩
end Go.Proofs.YtonejkomggpbbabGreatDoor
