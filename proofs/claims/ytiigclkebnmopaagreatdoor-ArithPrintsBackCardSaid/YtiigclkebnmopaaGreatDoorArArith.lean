/- Arithmetic expressions: the reference's Arith. -/
import Derived.Test.YtiigclkebnmopaaGreatDoorArRefE
import Derived.Test.YtiigclkebnmopaaGreatDoorArCls
namespace Go.Proofs.YtiigclkebnmopaaGreatDoor
open Go.RowKit Go.Shelf

def zeroX : Ex := .mk [] 0 [] []
/-- what Arith answers: the expression, a place, a code -/
def ans (T : List UInt8) : Ex × Int × Int := if chkO T ≠ 0 then (zeroX, 0, chkO T) else match allR T with
  | .ok x _ => if x.depth ≤ 50 then (x, 0, 0) else (zeroX, 0, 12)
  | .bad l => (zeroX, plc T l, 1)
  | _ => (zeroX, T.length, 27)
def AG (T : List UInt8) (w : World) (e : Ending) (w' : World) : Prop := ∃ v, e = .returned (.tuple #[v, .int .i64 (ans T).2.1, .int .i64 (ans T).2.2]) ∧ ExV (Nw w) w' v (ans T).1 ∧ Below w.heap.size w w'
theorem below_only {w a w' : World} {y : Nat} (h : Below w.heap.size w a) (ho : Only y a w') (hy : w.heap.size ≤ y) : Below w.heap.size w w' :=
  ⟨ho.os.trans h.os, ho.tape.trans h.tape, ho.output.trans h.output, Nat.le_trans h.size ho.size, fun k hk => (ho.block k (Nat.lt_of_lt_of_le hk h.size) (by omega)).trans (h.block k hk)⟩
theorem ib_neg : ∀ (l : List UInt8) (c : UInt8), ¬ 0 ≤ Lib.indexByte l c → c ∉ l
  | [], _, _ => by simp
  | a :: l, c, h => by
    unfold Lib.indexByte at h
    by_cases ha : (a == c) = true
    · rw [if_pos ha] at h
      exact absurd (Int.le_refl 0) h
    · rw [if_neg ha] at h
      have hac : c ≠ a := fun e => ha (by rw [e]; simp)
      have h2 : ¬ 0 ≤ Lib.indexByte l c := by
        intro h0
        split at h
        · rename_i h1
          have : Lib.indexByte l c = -1 := by simpa using h1
          omega
        · omega
      have h3 := ib_neg l c h2
      intro hm
      rcases List.mem_cons.1 hm with e | hm
      · exact hac e
      · exact h3 hm
theorem chk_zero {T : List UInt8} (h : chkO T = 0) : T.length ≤ 16384 ∧ (0 : UInt8) ∉ T := by
  unfold chkO at h
  split at h
  · exact absurd h (by decide)
  · split at h
    · exact absurd h (by decide)
    · rename_i h1 h2
      exact ⟨by omega, ib_neg T 0 h2⟩
theorem parse_all (T : List UInt8) : parse (40 * T.length + 40) .expr T ≠ .none := parse_some _ _ _ trivial (by have : Kd.rank .expr = 17 := rfl; omega)
theorem ExV.zero (P : Nat → Prop) (w : World) : ExV P w (.agg #[.string ⟨#[]⟩, .int .i64 0, .string ⟨#[]⟩, .slice none 0 0]) zeroX := ExV.flat P w [] [] 0
theorem AG.err {T : List UInt8} {w w' : World} {p c : Int} (h : ans T = (zeroX, p, c)) (hb : Below w.heap.size w w') : AG T w (.returned (.tuple #[.agg #[.string ⟨#[]⟩, .int .i64 0, .string ⟨#[]⟩, .slice none 0 0], .int .i64 p, .int .i64 c])) w' := by
  unfold AG
  rw [h]
  exact ⟨_, rfl, ExV.zero _ _, hb⟩
end Go.Proofs.YtiigclkebnmopaaGreatDoor

namespace Go.Proofs.YtiigclkebnmopaaGreatDoor
open Go.RowKit Go.Shelf

theorem ans_O {T : List UInt8} (h : chkO T = 0) : ans T = match allO T with
    | .ok x _ => if x.depth ≤ 50 then (x, 0, 0) else (zeroX, 0, 12)
    | .bad l => (zeroX, plc T l, 1)
    | .stuck l => (zeroX, plc T l, 1)
    | _ => (zeroX, (T.length : Int), 27) := by
  have h1 : allR T = (allO T).hard := all_rel (40 * T.length + 40) T (parse_all T)
  unfold ans
  rw [if_neg (by rw [h]; decide), h1]
  cases allO T <;> rfl
theorem Rd.new (w : World) (T : List UInt8) (hT : T.length ≤ 32768) : Rd (w.alloc (.cells #[.string (toB T), .int .i64 0, .bool false, .slice none 0 0, .int .i64 0, .bool false] 52)) w.heap.size T T :=
  ⟨⟨0, 0, by simp, by omega, by omega, heap_alloc_new w _⟩, ⟨[], rfl⟩, hT⟩
theorem Only2.new {x y z : Nat} {w a w' : World} (h : Only2 x y w a) (ho : Only z a w') (hz : w.heap.size ≤ z) : Only2 x y w w' :=
  ⟨ho.os.trans h.os, ho.tape.trans h.tape, ho.output.trans h.output, Nat.le_trans h.size ho.size, fun k hk hx hy => (ho.block k (Nat.lt_of_lt_of_le hk h.size) (by omega)).trans (h.block k hk hx hy)⟩
theorem Only2.three {b y : Nat} {w w' : World} (h : ∃ wm, Only b w wm ∧ ∃ wn, Only y wm wn ∧ Only b wn w') : Only2 b y w w' := by
  obtain ⟨wm, h1, wn, h2, h3⟩ := h
  exact (Only2.one h1 (.inl rfl)).trans ((Only2.one h2 (.inr rfl)).trans (Only2.one h3 (.inl rfl)))
theorem below_only2 {w a w' : World} {x y : Nat} (h : Below w.heap.size w a) (ho : Only2 x y a w') (hx : w.heap.size ≤ x) (hy : w.heap.size ≤ y) : Below w.heap.size w w' :=
  ⟨ho.os.trans h.os, ho.tape.trans h.tape, ho.output.trans h.output, Nat.le_trans h.size ho.size, fun k hk => (ho.block k (Nat.lt_of_lt_of_le hk h.size) (by omega) (by omega)).trans (h.block k hk)⟩
/-- behind caught -/
def WGG (b y : Nat) (T : List UInt8) (o : Out) (w : World) (e : Ending) (w' : World) : Prop := match o with
  | .ok x _ => ∃ v0 v1 v2 v3, e = .returned (.agg #[.int .i64 0, .int .i64 0]) ∧ Four w' y v0 v1 v2 v3 ∧ ExV (fun g => w.heap.size ≤ g) w' (.agg #[v0, v1, v2, v3]) x ∧ Only2 b y w w'
  | .bad l1 => e = .returned (.agg #[.int .i64 (plc T l1), .int .i64 1]) ∧ Only2 b y w w'
  | .stuck l1 => e = .returned (.agg #[.int .i64 (plc T l1), .int .i64 1]) ∧ Only2 b y w w'
  | .more => e = .returned (.agg #[.int .i64 (T.length : Int), .int .i64 27]) ∧ Only2 b y w w'
  | .none => False
theorem pan_inj {a c a' c' : Int} (h : pan a c = pan0 a' c') : a = a' ∧ c = c' := by
  unfold pan pan0 at h
  simpa using h
theorem wcaught (b b6 y : Nat) (T : List UInt8) (w : World) (h : Rd w b T T) (hm : MX b w) (h6 : w.cell? ⟨b6, 0, none⟩ = some (.pointer (some ⟨b, 0, none⟩))) (h6l : b6 < w.heap.size) (h6b : b6 ≠ b) (h6y : b6 ≠ y) (hy : Four w y (.string ⟨#[]⟩) (.int .i64 0) (.string ⟨#[]⟩) (.slice none 0 0)) (hyb : y ≠ b) :
    Calls Tryz.prog 18 #[.func (.func 19) #[] #[.pointer (some ⟨b6, 0, none⟩), .pointer (some ⟨y, 0, none⟩)]] w (WGG b y T (allO T) w) := by
  have ba := (Below.refl w.heap.size w).alloc (Nat.le_refl _) (.cells #[.int .i64 0, .int .i64 0] 54)
  have hP := Prb.new w 0 0
  have hsA : (w.alloc (.cells #[.int .i64 0, .int .i64 0] 54)).heap.size = w.heap.size + 1 := by simp
  generalize hwA : w.alloc (.cells #[.int .i64 0, .int .i64 0] 54) = wA at *
  have hyl := hy.lt
  have hbl := h.lt
  have hOA : Only b w wA := Only.of ba (Nat.le_refl _)
  have hC := closure_any b b6 y T wA (h.keep ba) (hm.only hOA) ((World.cell?_of_block (a := ⟨b6, 0, none⟩) (ba.block b6 h6l)).trans h6) (Nat.lt_of_lt_of_le h6l ba.size) h6b h6y (hy.keep ba) hyb (parse_all T)
  have h2 : Only2 b y w wA := Only2.below ba
  have hG : ∀ w2, Only2 b y wA w2 → Prb w2 w.heap.size 0 0 := fun w2 k => (k.block _ (by omega) (by omega) (by omega)).trans hP
  refine (caught_any _ (CG b y T (allO T) wA) w (hwA ▸ hC) ?_).mono ?_
  · intro e w2 k
    cases ho : allO T with
    | ok x l => rw [ho] at k; obtain ⟨_, _, _, _, rfl, _, _, k2⟩ := k; exact ⟨.inl rfl, hG w2 (Only2.three k2)⟩
    | bad l => rw [ho] at k; exact ⟨.inr ⟨_, _, k.1⟩, hG w2 (Only2.three k.2)⟩
    | stuck l => rw [ho] at k; exact ⟨.inr ⟨_, _, k.1⟩, hG w2 (Only2.three k.2)⟩
    | more => rw [ho] at k; exact ⟨.inr ⟨_, _, k.1⟩, hG w2 (Only2.three k.2)⟩
    | none => rw [ho] at k; exact k.elim
  · rintro e w' ⟨e1, w2, k, hcase, ho2⟩
    cases ho : allO T with
    | ok x l =>
      rw [ho] at k
      obtain ⟨v0, v1, v2, v3, rfl, hf, hxv, k2⟩ := k
      have k3 := Only2.three k2
      rcases hcase with ⟨_, rfl⟩ | ⟨a, c, he, _⟩
      · refine ⟨v0, v1, v2, v3, rfl, hf.only ho2 (by omega), ?_, (h2.trans k3).new ho2 (Nat.le_refl _)⟩
        refine (hxv.only ho2 (fun hg => ?_)).mono (fun g hg _ => ?_)
        · have hgA : wA.heap.size ≤ w.heap.size := hg
          omega
        · have hgA : wA.heap.size ≤ g := hg
          show w.heap.size ≤ g
          omega
      · cases he
    | bad l =>
      rw [ho] at k
      obtain ⟨he, k2⟩ := k
      rcases hcase with ⟨he', _⟩ | ⟨a, c, he', rfl⟩
      · rw [he] at he'; cases he'
      · rw [he] at he'
        obtain ⟨rfl, rfl⟩ := pan_inj he'
        exact ⟨rfl, (h2.trans (Only2.three k2)).new ho2 (Nat.le_refl _)⟩
    | stuck l =>
      rw [ho] at k
      obtain ⟨he, k2⟩ := k
      rcases hcase with ⟨he', _⟩ | ⟨a, c, he', rfl⟩
      · rw [he] at he'; cases he'
      · rw [he] at he'
        obtain ⟨rfl, rfl⟩ := pan_inj he'
        exact ⟨rfl, (h2.trans (Only2.three k2)).new ho2 (Nat.le_refl _)⟩
    | more =>
      rw [ho] at k
      obtain ⟨he, k2⟩ := k
      rcases hcase with ⟨he', _⟩ | ⟨a, c, he', rfl⟩
      · rw [he] at he'; cases he'
      · rw [he] at he'
        obtain ⟨rfl, rfl⟩ := pan_inj he'
        exact ⟨rfl, (h2.trans (Only2.three k2)).new ho2 (Nat.le_refl _)⟩
    | none => rw [ho] at k; exact k.elim

/-- the boxes that Arith makes -/
structure WS (w1 : World) (bx : Nat) (T : List UInt8) (W : World) : Prop where
  rd : Rd W (bx + 1) T T
  ptr : One W (bx + 2) 49 (.pointer (some ⟨bx + 1, 0, none⟩))
  four : Four W (bx + 3) (.string ⟨#[]⟩) (.int .i64 0) (.string ⟨#[]⟩) (.slice none 0 0)
  below : Below w1.heap.size w1 W
  size : W.heap.size = bx + 4
theorem WS.start {w1 : World} {bx : Nat} {T : List UInt8} (s1 : w1.heap.size = bx + 1) (hT : T.length ≤ 32768) : WS w1 bx T (((w1.alloc (.cells #[.string (toB T), .int .i64 0, .bool false, .slice none 0 0, .int .i64 0, .bool false] 52)).alloc (.cells #[.pointer (some ⟨bx + 1, 0, none⟩)] 49)).alloc (.cells #[.string ⟨#[]⟩, .int .i64 0, .string ⟨#[]⟩, .slice none 0 0] 25)) := by
  have b2 := (Below.refl w1.heap.size w1).alloc (Nat.le_refl _) (.cells #[.string (toB T), .int .i64 0, .bool false, .slice none 0 0, .int .i64 0, .bool false] 52)
  have hR2 := Rd.new w1 T hT
  have s2 : (w1.alloc (.cells #[.string (toB T), .int .i64 0, .bool false, .slice none 0 0, .int .i64 0, .bool false] 52)).heap.size = bx + 2 := by simp [s1]
  generalize w1.alloc (.cells #[.string (toB T), .int .i64 0, .bool false, .slice none 0 0, .int .i64 0, .bool false] 52) = w2 at *
  have b3 := (Below.refl w2.heap.size w2).alloc (Nat.le_refl _) (.cells #[.pointer (some ⟨bx + 1, 0, none⟩)] 49)
  have hP3 := One.new w2 49 (.pointer (some ⟨bx + 1, 0, none⟩))
  have s3 : (w2.alloc (.cells #[.pointer (some ⟨bx + 1, 0, none⟩)] 49)).heap.size = bx + 3 := by simp [s2]
  generalize w2.alloc (.cells #[.pointer (some ⟨bx + 1, 0, none⟩)] 49) = w3 at *
  have b4 := (Below.refl w3.heap.size w3).alloc (Nat.le_refl _) (.cells #[.string ⟨#[]⟩, .int .i64 0, .string ⟨#[]⟩, .slice none 0 0] 25)
  have hY := Four.new w3 (.string ⟨#[]⟩) (.int .i64 0) (.string ⟨#[]⟩) (.slice none 0 0)
  have s4 : (w3.alloc (.cells #[.string ⟨#[]⟩, .int .i64 0, .string ⟨#[]⟩, .slice none 0 0] 25)).heap.size = bx + 4 := by simp [s3]
  generalize w3.alloc (.cells #[.string ⟨#[]⟩, .int .i64 0, .string ⟨#[]⟩, .slice none 0 0] 25) = w4 at *
  rw [s1] at hR2
  rw [s2] at hP3
  rw [s3] at hY
  exact ⟨(hR2.keep b3).keep b4, (b4.block _ hP3.lt).trans hP3, hY, (b2.trans (b3.mono b2.size)).trans (b4.mono (Nat.le_trans b2.size b3.size)), s4⟩
theorem allO_size {T : List UInt8} {x : Ex} {l : List UInt8} (h : allO T = .ok x l) : x.size ≤ T.length := by
  unfold allO at h
  cases ho : parse (40 * T.length + 40) .expr T with
  | ok x' l' =>
    rw [ho] at h
    have h2 : endK x' l' = Out.ok x l := h
    unfold endK at h2
    split at h2
    · cases h2
      exact parse_parts ho
    · cases h2
  | bad l' => rw [ho] at h; cases h
  | more => rw [ho] at h; cases h
  | stuck l' => rw [ho] at h; cases h
  | none => rw [ho] at h; cases h
/-- what the program wants of the first block -/
def PX (w : World) : Prop := 0 < w.heap.size ∧ ∃ m, w.cell? ⟨0, 0, none⟩ = some (.int .i64 m)
set_option maxRecDepth 100000 in
set_option maxHeartbeats 6400000 in
theorem wArith_any (T : List UInt8) (w : World) (hT : T.length < 9223372036854775808) (hx : PX w) :
    Calls Tryz.prog 7 #[.string (toB T)] w (AG T w) := by
  have HTF := Lib.hid (fun W => checkText_any T hT W)
  have b1 := (Below.refl w.heap.size w).alloc (Nat.le_refl _) (.cells #[.string ⟨#[]⟩, .int .i64 0, .string ⟨#[]⟩, .slice none 0 0] 25)
  have HB1 := Lib.hid b1
  have HF1 := Lib.hid (Four.new w (.string ⟨#[]⟩) (.int .i64 0) (.string ⟨#[]⟩) (.slice none 0 0))
  have s1 : (w.alloc (.cells #[.string ⟨#[]⟩, .int .i64 0, .string ⟨#[]⟩, .slice none 0 0] 25)).heap.size = w.heap.size + 1 := by simp
  have HX := Lib.hid hx
  obtain ⟨Q, hQ⟩ : ∃ Q, AG T w = Q := ⟨_, rfl⟩
  rw [hQ]
  have HQ := Lib.hid hQ
  clear hQ b1 hx
  go_enter Tryz.func7, Tryz.ntmps7
  go_wp2_with fail
  generalize w.alloc (.cells #[.string ⟨#[]⟩, .int .i64 0, .string ⟨#[]⟩, .slice none 0 0] 25) = w1 at *
  obtain ⟨bx, hbx⟩ : ∃ bx, w.heap.size = bx := ⟨_, rfl⟩
  have HBX := Lib.hid hbx
  rw [hbx] at HF1 s1
  simp only [hbx]
  refine (HTF.out w1).mono ?_
  rintro e w' ⟨rfl, hw'⟩
  obtain rfl : w1 = w' := hw'.symm
  by_cases hc : chkO T = 0
  · obtain ⟨hT1, hz⟩ := chk_zero hc
    have HAn := Lib.hid (ans_O hc)
    rw [hc]
    clear hc hz
    have HS := Lib.hid (WS.start (T := T) s1 (by omega))
    have hmf : ∀ (fn : Fn) (first cap : Array Value) (w : World), (Instr.makeFunc fn first cap).run Tryz.prog w = .ok (.func fn first cap) w := fun _ _ _ _ => rfl
    go_wp2_with fail
    generalize ((w1.alloc (.cells #[.string (toB T), .int .i64 0, .bool false, .slice none 0 0, .int .i64 0, .bool false] 52)).alloc (.cells #[.pointer (some ⟨bx + 1, 0, none⟩)] 49)).alloc (.cells #[.string ⟨#[]⟩, .int .i64 0, .string ⟨#[]⟩, .slice none 0 0] 25) = w4 at *
    have HB4 := Lib.hid (HB1.out.trans (HS.out.below.mono HB1.out.size))
    have HF4 := Lib.hid (HF1.out.keep HS.out.below)
    have hM : MX (bx + 1) w4 := by
      obtain ⟨h0, m, hm⟩ := HX.out
      have := HB4.out.size
      exact ⟨by omega, by omega, m, (World.cell?_of_block (a := ⟨0, 0, none⟩) (HB4.out.block 0 h0)).trans hm⟩
    have hs4 := HS.out.size
    refine (wcaught (bx + 1) (bx + 1 + 1) (bx + 1 + 1 + 1) T w4 HS.out.rd hM HS.out.ptr.cell (by omega) (by omega) (by omega) HS.out.four (by omega)).mono ?_
    intro e w5 hg
    clear hM HS HF1
    cases ho : allO T with
    | ok x l =>
      rw [ho] at hg HAn
      obtain ⟨v0, v1, v2, v3, rfl, hf, hxv, ho5⟩ := hg
      have hsz := allO_size ho
      have HAn2 := Lib.hid (show ans T = if x.depth ≤ 50 then (x, 0, 0) else (zeroX, 0, 12) from HAn.out)
      obtain ⟨n, A, k, c, nm, hv, hnm⟩ := hxv.form
      clear hnm
      simp only [Value.agg.injEq, Array.mk.injEq, List.cons.injEq, and_true] at hv
      obtain ⟨rfl, rfl, rfl, rfl⟩ := hv
      have b6 := (Below.refl w5.heap.size w5).alloc (Nat.le_refl _) (.cells #[.int .i64 0, .int .i64 0] 54)
      have hs5 := ho5.size
      have hs6 : (w5.alloc (.cells #[.int .i64 0, .int .i64 0] 54)).heap.size = w5.heap.size + 1 := by simp
      have HP6 := Prb.new w5 0 0
      have HB5 := (below_only2 HB4.out ho5 (by omega) (by omega)).trans (b6.mono (Nat.le_trans HB4.out.size hs5))
      have HF5 : Four w5 bx (.string ⟨#[]⟩) (.int .i64 0) (.string ⟨#[]⟩) (.slice none 0 0) := (ho5.block bx HF4.out.lt (by omega) (by omega)).trans HF4.out
      have HF6 := HF5.keep b6
      have HY6 := hf.keep b6
      have HX6 := (hxv.mono (Q := fun g => w4.heap.size ≤ g ∧ g ≠ w5.heap.size + 1) (fun g hg hgl => ⟨hg, by omega⟩)).below b6
      have hOs := Lib.hid (And.intro HP6 (And.intro HB5 (And.intro HF6 (And.intro HY6 HX6))))
      have hyl : bx + 1 + 1 + 1 < w5.heap.size := hf.lt
      clear ho ho5 HAn hf hxv HP6 HB5 HF5 HF6 HY6 HX6 b6
      go_upto_region 7 with fail
      generalize w5.alloc (.cells #[.int .i64 0, .int .i64 0] 54) = w6 at *
      obtain ⟨pb, hpb⟩ : ∃ pb, w5.heap.size = pb := ⟨_, rfl⟩
      rw [hpb] at hOs hs6
      simp only [hpb]
      obtain ⟨k0, k1, kf⟩ := hOs.out.1.cells
      have b7 := (Below.refl w6.heap.size w6).alloc (Nat.le_refl _) (.cells #[.int .i64 0, .int .i64 0] 62)
      have HM7 := Lib.hid (show Mt (w6.alloc (.cells #[.int .i64 0, .int .i64 0] 62)) (pb + 1) 0 from hs6 ▸ heap_alloc_new w6 _)
      have HF7 := Lib.hid (hOs.out.2.2.1.keep b7)
      have HY7 := Lib.hid (hOs.out.2.2.2.1.keep b7)
      have HX7 := Lib.hid (hOs.out.2.2.2.2.below b7)
      have HB7 := Lib.hid (hOs.out.2.1.trans (b7.mono hOs.out.2.1.size))
      obtain ⟨c0, c1, c2, c3, cf⟩ := HY7.out.cells
      clear b7 hOs
      go_wp2_with fail
      generalize w6.alloc (.cells #[.int .i64 0, .int .i64 0] 62) = w7 at *
      clear k0 k1 kf c0 c1 c2 c3 cf
      have HMe := Lib.hid (mexpr_any (pb + 1) _ (fun h => h.2 (by omega)) x.size x (Nat.le_refl _) 1 0 _ w7 HX7.out HM7.out (by omega) (by omega) (by omega))
      rw [show ((1 : Nat) : Int) = 1 from rfl] at HMe
      refine HMe.out.mono ?_
      rintro e w8 ⟨rfl, _, ho8⟩
      have HB8 := Lib.hid (below_only HB7.out ho8 (by omega))
      have HF8 := Lib.hid (HF7.out.only ho8 (by omega))
      have HY8 := Lib.hid (HY7.out.only ho8 (by omega))
      have HX8 := Lib.hid (HX7.out.only ho8 (fun h => h.2 (by omega)))
      clear ho8 HB7 HF7 HY7 HX7 HMe HM7
      obtain ⟨c0, c1, c2, c3, cf⟩ := HY8.out.cells
      obtain ⟨d0, d1, d2, d3, df⟩ := HF8.out.cells
      have HF9 := Lib.hid (HF8.out.set (.string (toB x.op)) (.int .i64 (n : Int)) (.string (toB nm)) (.slice A k c))
      have HFz := Lib.hid (HF8.out.set (.string ⟨#[]⟩) (.int .i64 0) (.string ⟨#[]⟩) (.slice none 0 0))
      by_cases hd : x.depth ≤ 50
      · have HAn3 := Lib.hid (HAn2.out.trans (if_pos hd))
        rw [show codeD 1 x.depth = 0 by unfold codeD; rw [if_neg (by omega)]]
        clear hd HAn2
        go_wp2_with fail
        obtain ⟨q0, q1, q2, q3, qf⟩ := HF9.out.cells
        unfold set4 at q0 q1 q2 q3
        refine bodyPost_ret (v := .tuple #[.agg #[.string (toB x.op), .int .i64 (n : Int), .string (toB nm), .slice A k c], .int .i64 0, .int .i64 0]) (by simp [results, Tryz.results7, go_sem, q0, q1, q2, q3]) rfl ?_
        rw [← HQ.out]
        unfold AG
        rw [HAn3.out]
        have O := Only.set4 w8 bx (.string (toB x.op)) (.int .i64 (n : Int)) (.string (toB nm)) (.slice A k c)
        exact ⟨_, rfl, (HX8.out.only O (fun h => by have := h.1; omega)).mono (fun g hg _ => by have := hg.1; show w.heap.size ≤ g; omega), below_only HB8.out O (Nat.le_of_eq HBX.out)⟩
      · have HAn3 := Lib.hid (HAn2.out.trans (if_neg hd))
        rw [show codeD 1 x.depth = 12 by unfold codeD; rw [if_pos (by omega)]]
        clear hd HAn2
        go_wp2_with fail
        obtain ⟨q0, q1, q2, q3, qf⟩ := HFz.out.cells
        unfold set4 at q0 q1 q2 q3
        refine bodyPost_ret (v := .tuple #[.agg #[.string ⟨#[]⟩, .int .i64 0, .string ⟨#[]⟩, .slice none 0 0], .int .i64 0, .int .i64 12]) (by simp [results, Tryz.results7, go_sem, q0, q1, q2, q3]) rfl ?_
        rw [← HQ.out]
        exact AG.err HAn3.out (below_only HB8.out (Only.set4 w8 bx (.string ⟨#[]⟩) (.int .i64 0) (.string ⟨#[]⟩) (.slice none 0 0)) (Nat.le_of_eq HBX.out))
    | bad l =>
      rw [ho] at hg HAn
      obtain ⟨rfl, ho5⟩ := hg
      have HAn2 := Lib.hid (show ans T = (zeroX, plc T l, 1) from HAn.out)
      clear ho HAn
      obtain ⟨pl, hpl⟩ : ∃ pl, plc T l = pl := ⟨_, rfl⟩
      rw [hpl] at HAn2 ⊢
      clear hpl
      have ba := (Below.refl w5.heap.size w5).alloc (Nat.le_refl _) (.cells #[.int .i64 pl, .int .i64 1] 54)
      have HB5 := Lib.hid ((below_only2 HB4.out ho5 (by omega) (by omega)).trans (ba.mono (Nat.le_trans HB4.out.size ho5.size)))
      have HF5 := Lib.hid (show Four w5 bx (.string ⟨#[]⟩) (.int .i64 0) (.string ⟨#[]⟩) (.slice none 0 0) from (ho5.block bx HF4.out.lt (by omega) (by omega)).trans HF4.out)
      have HF6 := Lib.hid (HF5.out.keep ba)
      have HP6 := Lib.hid (Prb.new w5 pl 1)
      have hs5 := ho5.size
      clear ba ho5 HF5
      go_upto_region 7 with fail
      generalize w5.alloc (.cells #[.int .i64 pl, .int .i64 1] 54) = w6 at *
      obtain ⟨pb, hpb⟩ : ∃ pb, w5.heap.size = pb := ⟨_, rfl⟩
      have hpx : pb ≠ bx := by omega
      rw [hpb] at HP6
      simp only [hpb]
      obtain ⟨k0, k1, kf⟩ := HP6.out.cells
      obtain ⟨d0, d1, d2, d3, df⟩ := HF6.out.cells
      have HF7 := Lib.hid (HF6.out.set (.string ⟨#[]⟩) (.int .i64 0) (.string ⟨#[]⟩) (.slice none 0 0))
      go_wp2_with fail
      try (go_region; go_wp2)
      obtain ⟨q0, q1, q2, q3, qf⟩ := HF7.out.cells
      unfold set4 at q0 q1 q2 q3
      refine bodyPost_ret (v := .tuple #[.agg #[.string ⟨#[]⟩, .int .i64 0, .string ⟨#[]⟩, .slice none 0 0], .int .i64 pl, .int .i64 1]) (by simp [results, Tryz.results7, go_sem, q0, q1, q2, q3]) rfl ?_
      rw [← HQ.out]
      exact AG.err HAn2.out (below_only HB5.out ((Only.set4 w6 bx (.string ⟨#[]⟩) (.int .i64 0) (.string ⟨#[]⟩) (.slice none 0 0)).drewN 1) (Nat.le_of_eq HBX.out))
    | stuck l =>
      rw [ho] at hg HAn
      obtain ⟨rfl, ho5⟩ := hg
      have HAn2 := Lib.hid (show ans T = (zeroX, plc T l, 1) from HAn.out)
      clear ho HAn
      obtain ⟨pl, hpl⟩ : ∃ pl, plc T l = pl := ⟨_, rfl⟩
      rw [hpl] at HAn2 ⊢
      clear hpl
      have ba := (Below.refl w5.heap.size w5).alloc (Nat.le_refl _) (.cells #[.int .i64 pl, .int .i64 1] 54)
      have HB5 := Lib.hid ((below_only2 HB4.out ho5 (by omega) (by omega)).trans (ba.mono (Nat.le_trans HB4.out.size ho5.size)))
      have HF5 := Lib.hid (show Four w5 bx (.string ⟨#[]⟩) (.int .i64 0) (.string ⟨#[]⟩) (.slice none 0 0) from (ho5.block bx HF4.out.lt (by omega) (by omega)).trans HF4.out)
      have HF6 := Lib.hid (HF5.out.keep ba)
      have HP6 := Lib.hid (Prb.new w5 pl 1)
      have hs5 := ho5.size
      clear ba ho5 HF5
      go_upto_region 7 with fail
      generalize w5.alloc (.cells #[.int .i64 pl, .int .i64 1] 54) = w6 at *
      obtain ⟨pb, hpb⟩ : ∃ pb, w5.heap.size = pb := ⟨_, rfl⟩
      have hpx : pb ≠ bx := by omega
      rw [hpb] at HP6
      simp only [hpb]
      obtain ⟨k0, k1, kf⟩ := HP6.out.cells
      obtain ⟨d0, d1, d2, d3, df⟩ := HF6.out.cells
      have HF7 := Lib.hid (HF6.out.set (.string ⟨#[]⟩) (.int .i64 0) (.string ⟨#[]⟩) (.slice none 0 0))
      go_wp2_with fail
      try (go_region; go_wp2)
      obtain ⟨q0, q1, q2, q3, qf⟩ := HF7.out.cells
      unfold set4 at q0 q1 q2 q3
      refine bodyPost_ret (v := .tuple #[.agg #[.string ⟨#[]⟩, .int .i64 0, .string ⟨#[]⟩, .slice none 0 0], .int .i64 pl, .int .i64 1]) (by simp [results, Tryz.results7, go_sem, q0, q1, q2, q3]) rfl ?_
      rw [← HQ.out]
      exact AG.err HAn2.out (below_only HB5.out ((Only.set4 w6 bx (.string ⟨#[]⟩) (.int .i64 0) (.string ⟨#[]⟩) (.slice none 0 0)).drewN 1) (Nat.le_of_eq HBX.out))
    | more =>
      rw [ho] at hg HAn
      obtain ⟨rfl, ho5⟩ := hg
      have HAn2 := Lib.hid (show ans T = (zeroX, (T.length : Int), 27) from HAn.out)
      clear ho HAn
      obtain ⟨pl, hpl⟩ : ∃ pl, (T.length : Int) = pl := ⟨_, rfl⟩
      rw [hpl] at HAn2 ⊢
      clear hpl
      have ba := (Below.refl w5.heap.size w5).alloc (Nat.le_refl _) (.cells #[.int .i64 pl, .int .i64 27] 54)
      have HB5 := Lib.hid ((below_only2 HB4.out ho5 (by omega) (by omega)).trans (ba.mono (Nat.le_trans HB4.out.size ho5.size)))
      have HF5 := Lib.hid (show Four w5 bx (.string ⟨#[]⟩) (.int .i64 0) (.string ⟨#[]⟩) (.slice none 0 0) from (ho5.block bx HF4.out.lt (by omega) (by omega)).trans HF4.out)
      have HF6 := Lib.hid (HF5.out.keep ba)
      have HP6 := Lib.hid (Prb.new w5 pl 27)
      have hs5 := ho5.size
      clear ba ho5 HF5
      go_upto_region 7 with fail
      generalize w5.alloc (.cells #[.int .i64 pl, .int .i64 27] 54) = w6 at *
      obtain ⟨pb, hpb⟩ : ∃ pb, w5.heap.size = pb := ⟨_, rfl⟩
      have hpx : pb ≠ bx := by omega
      rw [hpb] at HP6
      simp only [hpb]
      obtain ⟨k0, k1, kf⟩ := HP6.out.cells
      obtain ⟨d0, d1, d2, d3, df⟩ := HF6.out.cells
      have HF7 := Lib.hid (HF6.out.set (.string ⟨#[]⟩) (.int .i64 0) (.string ⟨#[]⟩) (.slice none 0 0))
      go_wp2_with fail
      try (go_region; go_wp2)
      obtain ⟨q0, q1, q2, q3, qf⟩ := HF7.out.cells
      unfold set4 at q0 q1 q2 q3
      refine bodyPost_ret (v := .tuple #[.agg #[.string ⟨#[]⟩, .int .i64 0, .string ⟨#[]⟩, .slice none 0 0], .int .i64 pl, .int .i64 27]) (by simp [results, Tryz.results7, go_sem, q0, q1, q2, q3]) rfl ?_
      rw [← HQ.out]
      exact AG.err HAn2.out (below_only HB5.out ((Only.set4 w6 bx (.string ⟨#[]⟩) (.int .i64 0) (.string ⟨#[]⟩) (.slice none 0 0)).drewN 1) (Nat.le_of_eq HBX.out))
    | none => rw [ho] at hg; exact hg.elim
  · have HAn := Lib.hid (show ans T = (zeroX, 0, chkO T) by unfold ans; rw [if_pos hc])
    generalize chkO T = cc at *
    have hcb : (cc != 0) = true := by rw [bne_iff_ne]; exact hc
    have hcb2 : (cc == 0) = false := by rw [beq_eq_false_iff_ne]; exact hc
    clear hc
    obtain ⟨d0, d1, d2, d3, df⟩ := HF1.out.cells
    have HF7 := Lib.hid (HF1.out.set (.string ⟨#[]⟩) (.int .i64 0) (.string ⟨#[]⟩) (.slice none 0 0))
    go_wp2_with fail
    obtain ⟨q0, q1, q2, q3, qf⟩ := HF7.out.cells
    unfold set4 at q0 q1 q2 q3
    refine bodyPost_ret (v := .tuple #[.agg #[.string ⟨#[]⟩, .int .i64 0, .string ⟨#[]⟩, .slice none 0 0], .int .i64 0, .int .i64 cc]) (by simp [results, Tryz.results7, go_sem, q0, q1, q2, q3]) rfl ?_
    rw [← HQ.out]
    exact AG.err HAn.out (below_only HB1.out (Only.set4 w1 bx (.string ⟨#[]⟩) (.int .i64 0) (.string ⟨#[]⟩) (.slice none 0 0)) (by omega))

end Go.Proofs.YtiigclkebnmopaaGreatDoor
