/- Arithmetic expressions: the reference's names, targets, numbers of arguments. -/
import Derived.Test.YtiigclkebnmopaaGreatDoorArRefA
import Derived.Test.YtiigclkebnmopaaGreatDoorArNum
import Derived.Test.YtiigclkebnmopaaGreatDoorArPri
namespace Go.Proofs.YtiigclkebnmopaaGreatDoor
open Go.RowKit Go.Shelf

def RIsName (s : List UInt8) (w : World) (e : Ending) (w' : World) : Prop := e = .returned (.bool (isNm s)) ∧ w = w'
set_option maxRecDepth 100000 in
set_option maxHeartbeats 1600000 in
theorem risName_any (s : List UInt8) (w : World) : Calls Tryz.prog 74 #[.string (toB s)] w (RIsName s w) := by
  obtain ⟨Q, hQ⟩ : ∃ Q, RIsName s w = Q := ⟨_, rfl⟩
  rw [hQ]
  have HQ := Lib.hid hQ
  clear hQ
  have hsz := toB_size s
  have hem : (toB s).toList = s := by simp [toB, ByteArray.toList_eq]
  cases s with
  | nil =>
    have he : (toB []).toList.isEmpty = true := by rw [hem]; rfl
    clear hem
    go_enter Tryz.func74, Tryz.ntmps74
    go_wp2_with fail
    rw [← HQ.out]
    exact ⟨rfl, rfl⟩
  | cons c r =>
    have he : (toB (c :: r)).toList.isEmpty = false := by rw [hem]; rfl
    clear hem
    obtain ⟨s, hs0⟩ : ∃ s, c :: r = s := ⟨_, rfl⟩
    have hne : 0 < s.length := by rw [← hs0]; simp
    have hat0 : ∀ h : 0 < (toB s).size, (toB s)[0]'h = c := fun h => by rw [toB_get]; subst hs0; rfl
    have HS0 := Lib.hid hs0
    rw [hs0] at hsz he HQ
    rw [hs0]
    clear hs0
    have h0 : 0 < (toB s).size := by omega
    have hat := hat0 h0
    clear hat0
    have hc := c.toNat_lt
    by_cases hl : s.length ≤ 64
    · cases hL : isL c with
      | false =>
        have hN := Lib.hid (show isNm s = false by rw [← HS0.out]; simp [isNm, hL])
        have hLB := Lib.hid (hL)
        clear hL
        go_enter Tryz.func74, Tryz.ntmps74
        go_wp2_with fail
        refine (rletter_any _ _).mono ?_
        rintro e w3 ⟨rfl, rfl⟩
        rw [hLB.out]
        go_wp2_with fail
        rw [← HQ.out]
        exact ⟨by rw [hN.out]; rfl, rfl⟩
      | true =>
        have hN := Lib.hid (show isNm s = s.all isW by rw [← HS0.out] at hl ⊢; exact isNm_let hl hL)
        have hLB := Lib.hid (hL)
        clear hL
        go_enter Tryz.func74, Tryz.ntmps74
        go_wp2_with fail
        refine (rletter_any _ _).mono ?_
        rintro e w3 ⟨rfl, rfl⟩
        rw [hLB.out]
        clear hat hc
        go_wp2_with fail
        go_loop [19] (fun s19 => ∃ k : Nat, s19 = .int .i64 (k : Int) ∧ k ≤ s.length ∧ Hid ((s.take k).all isW = true)) (fun s19 => s.length - (intOf s19).toNat)
        case atStart => exact ⟨0, rfl, Nat.zero_le _, Lib.hid rfl⟩
        case round =>
          obtain ⟨k, rfl, hk, HK⟩ := hrel
          by_cases hlt : k < s.length
          · have hb2 : k < (toB s).size := by omega
            have hg := toB_get s k hb2
            have htk := Lib.hid (List.take_succ_eq_append_getElem hlt)
            have hmem := Lib.hid (List.getElem_mem hlt)
            generalize s[k] = a at *
            have ha := a.toNat_lt
            cases hLa : isL a with
            | true =>
              have hLBa := Lib.hid (hLa)
              have HK2 := Lib.hid (show (s.take (k + 1)).all isW = true by rw [htk.out, List.all_append, HK.out]; simp [isW, hLa])
              clear hLa
              go_wp2_with fail
              refine (rletter_any _ _).mono ?_
              rintro e w3 ⟨rfl, rfl⟩
              rw [hLBa.out]
              go_wp2_with fail
              exact ⟨⟨k + 1, by go_num, by omega, HK2⟩, by simp [intOf]; omega⟩
            | false =>
              have hLBa := Lib.hid (hLa)
              cases hDa : isD a with
              | true =>
                have hDBa := Lib.hid (hDa)
                have HK2 := Lib.hid (show (s.take (k + 1)).all isW = true by rw [htk.out, List.all_append, HK.out]; simp [isW, hDa])
                clear hLa hDa
                go_wp2_with fail
                refine (rletter_any _ _).mono ?_
                rintro e w3 ⟨rfl, rfl⟩
                rw [hLBa.out]
                go_wp2_with fail
                refine (rdigit_any _ _).mono ?_
                rintro e w3 ⟨rfl, rfl⟩
                rw [hDBa.out]
                go_wp2_with fail
                exact ⟨⟨k + 1, by go_num, by omega, HK2⟩, by simp [intOf]; omega⟩
              | false =>
                have hDBa := Lib.hid (hDa)
                have HA := Lib.hid (show s.all isW = false by
                  rw [List.all_eq_false]
                  exact ⟨a, hmem.out, by simp [isW, hLa, hDa]⟩)
                clear hLa hDa
                go_wp2_with fail
                refine (rletter_any _ _).mono ?_
                rintro e w3 ⟨rfl, rfl⟩
                rw [hLBa.out]
                go_wp2_with fail
                refine (rdigit_any _ _).mono ?_
                rintro e w3 ⟨rfl, rfl⟩
                rw [hDBa.out]
                go_wp2_with fail
                rw [← HQ.out]
                exact ⟨by rw [hN.out, HA.out] <;> rfl, rfl⟩
          · obtain rfl : k = s.length := by omega
            have HA := Lib.hid (show s.all isW = true by have := HK.out; rwa [List.take_length] at this)
            go_wp2_with fail
            rw [← HQ.out]
            exact ⟨by rw [hN.out, HA.out] <;> rfl, rfl⟩
    · have hN := Lib.hid (show isNm s = false by rw [← HS0.out] at hl ⊢; exact isNm_long hl)
      have hl2 : (64 : Int) < (s.length : Int) := by omega
      go_enter Tryz.func74, Tryz.ntmps74
      go_wp2_with fail
      rw [← HQ.out]
      exact ⟨by rw [hN.out]; rfl, rfl⟩
def RIsTarget (op nm : List UInt8) (w : World) (e : Ending) (w' : World) : Prop := e = .returned (.bool (op == [101] || op == [118] && isNm nm)) ∧ Below w.heap.size w w'
set_option maxRecDepth 100000 in
set_option maxHeartbeats 1600000 in
theorem rtarget_any (op nm : List UInt8) (n : Int) (A : Option Addr) (k c : Nat) (w : World) :
    Calls Tryz.prog 81 #[.agg #[.string (toB op), .int .i64 n, .string (toB nm), .slice A k c]] w (RIsTarget op nm w) := by
  obtain ⟨Q, hQ⟩ : ∃ Q, RIsTarget op nm w = Q := ⟨_, rfl⟩
  rw [hQ]
  have HQ := Lib.hid hQ
  clear hQ
  have HB := Lib.hid ((Below.refl w.heap.size w).alloc (Nat.le_refl _) (.cells #[.string (toB op), .int .i64 n, .string (toB nm), .slice A k c] 25))
  have F1 := Lib.hid (Four.new w (.string (toB op)) (.int .i64 n) (.string (toB nm)) (.slice A k c))
  have hem : (toB op).toList = op := by simp [toB, ByteArray.toList_eq]
  by_cases h2 : op = [118]
  · have he2 : ((toB op).toList == [118]) = true := by rw [hem, h2]; rfl
    have he1 : ((toB op).toList == [101]) = false := by rw [hem, h2]; rfl
    have HR := Lib.hid (show (op == [101] || op == [118] && isNm nm) = isNm nm by rw [h2]; rfl)
    clear hem h2
    go_enter Tryz.func81, Tryz.ntmps81
    go_wp2_with fail
    refine (risName_any nm _).mono ?_
    rintro e w3 ⟨rfl, rfl⟩
    obtain ⟨q, hx⟩ : ∃ q, isNm nm = q := ⟨_, rfl⟩
    have HX := Lib.hid hx
    rw [hx]
    clear hx
    cases q
    all_goals
      go_wp2_with fail
      rw [← HQ.out]
      exact ⟨by rw [HR.out, HX.out] <;> rfl, HB.out⟩
  · have he2 : ((toB op).toList == [118]) = false := by rw [hem, beq_eq_false_iff_ne]; exact h2
    by_cases h1 : op = [101]
    · have he1 : ((toB op).toList == [101]) = true := by rw [hem, h1]; rfl
      have HR := Lib.hid (show (op == [101] || op == [118] && isNm nm) = true by rw [h1]; rfl)
      clear hem h1 h2
      go_enter Tryz.func81, Tryz.ntmps81
      go_wp2_with fail
      rw [← HQ.out]
      exact ⟨by rw [HR.out]; rfl, HB.out⟩
    · have he1 : ((toB op).toList == [101]) = false := by rw [hem, beq_eq_false_iff_ne]; exact h1
      have HR := Lib.hid (show (op == [101] || op == [118] && isNm nm) = false by simp [h1, h2])
      clear hem h1 h2
      go_enter Tryz.func81, Tryz.ntmps81
      go_wp2_with fail
      rw [← HQ.out]
      exact ⟨by rw [HR.out]; rfl, HB.out⟩
set_option maxRecDepth 100000 in
set_option maxHeartbeats 1600000 in
/-- the digits of an argument in braces -/
theorem rplain_any (s : List UInt8) (w : World) (hs : s.length ≤ 16384) :
    Calls Tryz.prog 75 #[.string (toB s)] w fun e w' => e = .returned (.bool (posOk s)) ∧ w' = w := by
  have hsz := toB_size s
  have hem : (toB s).toList = s := by simp [toB, ByteArray.toList_eq]
  by_cases h0 : s = [48]
  · have he : ((toB s).toList == [48]) = true := by rw [hem, h0]; rfl
    have HR := Lib.hid (show posOk s = true by rw [h0]; rfl)
    clear hem h0
    go_enter Tryz.func75, Tryz.ntmps75
    go_wp2_with fail
    go_ret
    exact ⟨by rw [HR.out]; rfl, rfl⟩
  · have he : ((toB s).toList == [48]) = false := by rw [hem, beq_eq_false_iff_ne]; exact h0
    cases s with
    | nil =>
      go_enter Tryz.func75, Tryz.ntmps75
      go_wp2_with fail
      go_ret
      exact ⟨rfl, rfl⟩
    | cons c r =>
      have hem2 : (toB (c :: r)).toList.isEmpty = false := by rw [hem]; rfl
      have hlen : (c :: r).length = r.length + 1 := rfl
      rw [hlen] at hsz
      have hp : 0 < (toB (c :: r)).size := by omega
      have hat : ((toB (c :: r))[0]'hp) = c := toB_get _ _ _
      have HR : Hid (posOk (c :: r) = (decide (c ≠ 48) && decide (r.length + 1 ≤ 3))) := Lib.hid (by
        unfold posOk
        rw [show (c :: r == [48]) = false by rw [beq_eq_false_iff_ne]; exact h0]
        simp
        rw [Bool.eq_iff_iff]
        simp)
      clear hem h0
      by_cases hc : c = 48
      · have hb : ((c.toNat : Int) != 48) = false := by rw [hc]; rfl
        have HF := Lib.hid (show (decide (c ≠ 48) && decide (r.length + 1 ≤ 3)) = false by simp [hc])
        clear hc
        go_enter Tryz.func75, Tryz.ntmps75
        go_wp2_with fail
        go_ret
        exact ⟨by rw [HR.out, HF.out]; rfl, rfl⟩
      · have hb : ((c.toNat : Int) != 48) = true := by
          rw [bne_iff_ne]
          intro e
          exact hc (UInt8.toNat_inj.1 (by show c.toNat = 48; omega))
        by_cases h3 : r.length + 1 ≤ 3
        · have HF := Lib.hid (show (decide (c ≠ 48) && decide (r.length + 1 ≤ 3)) = true by simp [hc]; omega)
          have h3i : (r.length : Int) + 1 ≤ 3 := by omega
          clear hc
          go_enter Tryz.func75, Tryz.ntmps75
          go_wp2_with fail
          go_ret
          exact ⟨by rw [HR.out, HF.out]; rfl, rfl⟩
        · have HF := Lib.hid (show (decide (c ≠ 48) && decide (r.length + 1 ≤ 3)) = false by simp [hc]; omega)
          have h3i : ¬ (r.length : Int) + 1 ≤ 3 := by omega
          clear hc
          go_enter Tryz.func75, Tryz.ntmps75
          go_wp2_with fail
          go_ret
          exact ⟨by rw [HR.out, HF.out]; rfl, rfl⟩

end Go.Proofs.YtiigclkebnmopaaGreatDoor

namespace Go.Proofs.YtiigclkebnmopaaGreatDoor
open Go.RowKit Go.Shelf

/-- a reading that fails ends in a panic, and so does what goes on behind it -/
theorem RPG.fail {b : Nat} {T : List UInt8} {o : Out} {W : World} {e : Ending} {w' : World} (hn : ∀ x l, o ≠ .ok x l) (h : RPG b T o W e w') : ∃ p c, e = rpan p c ∧ Only b W w' ∧ ∀ (F : Ex → List UInt8 → Out) (w : World), Only b w w' → RPG b T (o.bind F) w (rpan p c) w' := by
  cases o with
  | ok x l => exact absurd rfl (hn x l)
  | stuck l => exact h.elim
  | bad l => exact ⟨_, _, h.1, h.2, fun F w hw => ⟨rfl, hw⟩⟩
  | more => exact ⟨_, _, h.1, h.2, fun F w hw => ⟨rfl, hw⟩⟩
  | none => exact h.elim
/-- wrong at the next token, as a result -/
theorem RPG.badAt {b : Nat} {T l : List UInt8} {w w2 w' : World} {e : Ending} (h : (if gap l = [] then e = rpan T.length 27 else e = rpan (plc T (gap l)) 1) ∧ Only b w2 w') (hw : Only b w w2) : RPG b T (badAt l) w e w' ∧ ∃ p c, e = rpan p c := by
  unfold Go.Proofs.YtiigclkebnmopaaGreatDoor.badAt
  by_cases hg : gap l = []
  · rw [if_pos hg] at h ⊢
    exact ⟨⟨h.1, hw.trans h.2⟩, _, _, h.1⟩
  · rw [if_neg hg] at h ⊢
    exact ⟨⟨h.1, hw.trans h.2⟩, _, _, h.1⟩

/-- a function that reads: its result's box, the reader -/
structure RSX (w : World) (b bx : Nat) (T l : List UInt8) (W : World) : Prop where
  rd : RRd W b T l
  only : Only b w W
  res : Four W bx (.string ⟨#[]⟩) (.int .i64 0) (.string ⟨#[]⟩) (.slice none 0 0)
  ne : w.heap.size ≤ bx ∧ b < w.heap.size
theorem RSX.start {w : World} {b : Nat} {T l : List UInt8} (h : RRd w b T l) : RSX w b w.heap.size T l (w.alloc (.cells #[.string ⟨#[]⟩, .int .i64 0, .string ⟨#[]⟩, .slice none 0 0] 25)) := by
  have ba := (Below.refl w.heap.size w).alloc (Nat.le_refl _) (.cells #[.string ⟨#[]⟩, .int .i64 0, .string ⟨#[]⟩, .slice none 0 0] 25)
  exact ⟨h.keep ba, Only.of ba (Nat.le_refl _), Four.new w _ _ _ _, Nat.le_refl _, h.lt⟩
theorem RSX.step {w W W' : World} {b bx : Nat} {T l l' : List UInt8} (h : RSX w b bx T l W) (hr : RRd W' b T l') (ho : Only b W W') : RSX w b bx T l' W' :=
  ⟨hr, h.only.trans ho, h.res.only ho (by have := h.ne; omega), h.ne⟩
theorem RSX.below {w W W' : World} {b bx : Nat} {T l : List UInt8} (h : RSX w b bx T l W) (hb : Below W.heap.size W W') : RSX w b bx T l W' :=
  ⟨h.rd.keep hb, h.only.trans (Only.of hb (Nat.le_refl _)), h.res.keep hb, h.ne⟩
/-- another new block is changed -/
theorem RSX.other {w W W' : World} {b bx y : Nat} {T l : List UInt8} (h : RSX w b bx T l W) (ho : Only y W W') (hy : bx < y) : RSX w b bx T l W' :=
  ⟨h.rd.only ho (by have := h.ne; omega), h.only.new ho (by have := h.ne; omega), h.res.only ho (by omega), h.ne⟩
theorem RSX.lt {w W : World} {b bx : Nat} {T l : List UInt8} (h : RSX w b bx T l W) : bx < W.heap.size := h.res.lt
/-- the result is stored -/
theorem RSX.gives {w W : World} {b bx : Nat} {T l : List UInt8} {v0 v1 v2 v3 : Value} {x : Ex} (h : RSX w b bx T l W) (hv : ExV (fun g => w.heap.size ≤ g ∧ g ≠ bx) W (.agg #[v0, v1, v2, v3]) x) {o : Out} (ho : o = .ok x l) :
    RPG b T o w (.returned (.agg #[v0, v1, v2, v3])) (set4 W bx v0 v1 v2 v3) ∧ Four (set4 W bx v0 v1 v2 v3) bx v0 v1 v2 v3 := by
  have O5 := Only.set4 W bx v0 v1 v2 v3
  have hne := h.ne
  subst ho
  exact ⟨⟨_, rfl, (hv.only O5 (fun hh => hh.2 rfl)).mono (fun g hg _ => hg.1), h.rd.only O5 (by omega), h.only.new O5 (by omega)⟩, h.res.set _ _ _ _⟩

/-- a reading function that holds an operand in a box -/
structure RSB (w : World) (b bx gx : Nat) (T l : List UInt8) (v0 v1 v2 v3 : Value) (x : Ex) (W : World) : Prop where
  sx : RSX w b bx T l W
  four : Four W gx v0 v1 v2 v3
  val : ExV (PP w bx gx) W (.agg #[v0, v1, v2, v3]) x
  lt : bx < gx
theorem RSX.box {w w1 w2 : World} {b bx : Nat} {T l l1 : List UInt8} {v0 v1 v2 v3 : Value} {x : Ex} (h : RSX w b bx T l w1) (hr : RRd w2 b T l1) (ho : Only b w1 w2) (hx : ExV (Nw w1) w2 (.agg #[v0, v1, v2, v3]) x) :
    RSB w b bx w2.heap.size T l1 v0 v1 v2 v3 x (w2.alloc (.cells #[v0, v1, v2, v3] 25)) := by
  have ba := (Below.refl w2.heap.size w2).alloc (Nat.le_refl _) (.cells #[v0, v1, v2, v3] 25)
  have h1 := h.lt
  have h2 := ho.size
  have h3 := h.ne
  refine ⟨(h.step hr ho).below ba, Four.new w2 _ _ _ _, (hx.mono (fun g hg hgl => ?_)).below ba, by omega⟩
  have hgw : w1.heap.size ≤ g := hg
  exact ⟨by omega, by omega, by omega⟩
theorem RSB.step {w W W' : World} {b bx gx : Nat} {T l l' : List UInt8} {v0 v1 v2 v3 : Value} {x : Ex} (h : RSB w b bx gx T l v0 v1 v2 v3 x W) (hr : RRd W' b T l') (ho : Only b W W') : RSB w b bx gx T l' v0 v1 v2 v3 x W' := by
  have hne := h.sx.ne
  have hlt := h.lt
  exact ⟨h.sx.step hr ho, h.four.only ho (by omega), h.val.only ho (fun hh => by have := hh.1; omega), h.lt⟩
theorem RSB.below {w W W' : World} {b bx gx : Nat} {T l : List UInt8} {v0 v1 v2 v3 : Value} {x : Ex} (h : RSB w b bx gx T l v0 v1 v2 v3 x W) (hb : Below W.heap.size W W') : RSB w b bx gx T l v0 v1 v2 v3 x W' :=
  ⟨h.sx.below hb, h.four.keep hb, h.val.below hb, h.lt⟩
/-- the operand is the result -/
theorem RSB.gives {w W : World} {b bx gx : Nat} {T l : List UInt8} {v0 v1 v2 v3 : Value} {x : Ex} (h : RSB w b bx gx T l v0 v1 v2 v3 x W) {o : Out} (ho : o = .ok x l) :
    RPG b T o w (.returned (.agg #[v0, v1, v2, v3])) (set4 W bx v0 v1 v2 v3) ∧ Four (set4 W bx v0 v1 v2 v3) bx v0 v1 v2 v3 :=
  h.sx.gives (h.val.mono (fun _ hg _ => ⟨hg.1, hg.2.1⟩)) ho
/-- the operand is the part of the result -/
theorem RSB.gives1 {w W : World} {b bx gx : Nat} {T l : List UInt8} {v0 v1 v2 v3 : Value} {x : Ex} (h : RSB w b bx gx T l v0 v1 v2 v3 x W) (s nm : List UInt8) {o : Out} (ho : o = .ok (.mk s 0 nm [x]) l) :
    RPG b T o w (.returned (.agg #[.string (toB s), .int .i64 0, .string (toB nm), .slice (some ⟨W.heap.size, 0, none⟩) 1 1])) ((set4 W bx (.string (toB s)) (.int .i64 0) (.string (toB nm)) (.slice (some ⟨W.heap.size, 0, none⟩) 1 1)).alloc (.cells #[v0, v1, v2, v3] 25)) ∧
      Four ((set4 W bx (.string (toB s)) (.int .i64 0) (.string (toB nm)) (.slice (some ⟨W.heap.size, 0, none⟩) 1 1)).alloc (.cells #[v0, v1, v2, v3] 25)) bx (.string (toB s)) (.int .i64 0) (.string (toB nm)) (.slice (some ⟨W.heap.size, 0, none⟩) 1 1) := by
  have ba := (Below.refl W.heap.size W).alloc (Nat.le_refl _) (.cells #[v0, v1, v2, v3] 25)
  have hne := h.sx.ne
  have hl := h.sx.lt
  rw [← set4_alloc W _ bx _ _ _ _ hl]
  exact (h.sx.below ba).gives (exv_row (exl_one (h.val.mono (fun _ hg _ => ⟨hg.1, hg.2.1⟩)) _) ⟨by omega, by omega⟩ (by simp) (by simp) s nm _ rfl) ho

/-- a value is stored as the result -/
theorem RSX.givesV {w W : World} {b bx : Nat} {T l l' : List UInt8} {W0 : World} {v0 v1 v2 v3 : Value} {x : Ex} (h0 : RSX w b bx T l W0) (hr : RRd W b T l') (ho : Only b W0 W) (hx : ExV (Nw W0) W (.agg #[v0, v1, v2, v3]) x) {o : Out} (heq : o = .ok x l') :
    RPG b T o w (.returned (.agg #[v0, v1, v2, v3])) (set4 W bx v0 v1 v2 v3) ∧ Four (set4 W bx v0 v1 v2 v3) bx v0 v1 v2 v3 := by
  have h1 := h0.lt
  have h3 := h0.ne
  refine (h0.step hr ho).gives (hx.mono (fun g hg _ => ?_)) heq
  have hgw : W0.heap.size ≤ g := hg
  exact ⟨by omega, by omega⟩
/-- a value is the part of the result -/
theorem RSX.givesV1 {w W : World} {b bx : Nat} {T l l' : List UInt8} {W0 : World} {v0 v1 v2 v3 : Value} {x : Ex} (h0 : RSX w b bx T l W0) (hr : RRd W b T l') (ho : Only b W0 W) (hx : ExV (Nw W0) W (.agg #[v0, v1, v2, v3]) x) (s nm : List UInt8) {o : Out} (heq : o = .ok (.mk s 0 nm [x]) l') :
    RPG b T o w (.returned (.agg #[.string (toB s), .int .i64 0, .string (toB nm), .slice (some ⟨W.heap.size, 0, none⟩) 1 1])) ((set4 W bx (.string (toB s)) (.int .i64 0) (.string (toB nm)) (.slice (some ⟨W.heap.size, 0, none⟩) 1 1)).alloc (.cells #[v0, v1, v2, v3] 25)) ∧
      Four ((set4 W bx (.string (toB s)) (.int .i64 0) (.string (toB nm)) (.slice (some ⟨W.heap.size, 0, none⟩) 1 1)).alloc (.cells #[v0, v1, v2, v3] 25)) bx (.string (toB s)) (.int .i64 0) (.string (toB nm)) (.slice (some ⟨W.heap.size, 0, none⟩) 1 1) := by
  have ba := (Below.refl W.heap.size W).alloc (Nat.le_refl _) (.cells #[v0, v1, v2, v3] 25)
  have h1 := h0.lt
  have h2 := ho.size
  have h3 := h0.ne
  have hs := h0.step hr ho
  have hl := hs.lt
  rw [← set4_alloc W _ bx _ _ _ _ hl]
  refine (hs.below ba).gives (exv_row (exl_one (hx.mono (fun g hg _ => ?_)) _) ⟨by omega, by omega⟩ (by simp) (by simp) s nm _ rfl) heq
  have hgw : W0.heap.size ≤ g := hg
  exact ⟨by omega, by omega⟩

/-- two operands in a row of their own: the next first operand -/
theorem RSB.join {w w4 W : World} {b bx gx : Nat} {T l1 l2 : List UInt8} {v0 v1 v2 v3 u0 u1 u2 u3 : Value} {x y : Ex} (h : RSB w b bx gx T l1 v0 v1 v2 v3 x w4) (hr : RRd W b T l2) (ho : Only b w4 W) (hy : ExV (Nw w4) W (.agg #[u0, u1, u2, u3]) y) (s : List UInt8) :
    RSB w b bx gx T l2 (.string (toB s)) (.int .i64 0) (.string (toB [])) (.slice (some ⟨W.heap.size, 0, none⟩) 2 2) (Go.Proofs.YtiigclkebnmopaaGreatDoor.bx s [x, y]) ((set4 W gx (.string (toB s)) (.int .i64 0) (.string (toB [])) (.slice (some ⟨W.heap.size, 0, none⟩) 2 2)).alloc (.cells #[v0, v1, v2, v3, u0, u1, u2, u3] 25)) := by
  have ba := (Below.refl W.heap.size W).alloc (Nat.le_refl _) (.cells #[v0, v1, v2, v3, u0, u1, u2, u3] 25)
  have s1 := h.sx.only.size
  have s2 := ho.size
  have s3 := h.sx.lt
  have s4 := h.four.lt
  have h2 := h.step hr ho
  have h3 := h2.below ba
  have s5 := h2.four.lt
  have hlt := h.lt
  rw [← set4_alloc W _ gx _ _ _ _ s5]
  have O := Only.set4 (W.alloc (.cells #[v0, v1, v2, v3, u0, u1, u2, u3] 25)) gx (.string (toB s)) (.int .i64 0) (.string (toB [])) (.slice (some ⟨W.heap.size, 0, none⟩) 2 2)
  refine ⟨h3.sx.other O hlt, h3.four.set _ _ _ _, ?_, hlt⟩
  refine ExV.only (exv_row (exl_two h2.val (hy.mono (fun g hg _ => ?_)) _) ⟨by omega, by omega, by omega⟩ (by simp) (by simp) s [] _ rfl) O (fun hh => hh.2.2 rfl)
  have hgw : w4.heap.size ≤ g := hg
  exact ⟨by omega, by omega, by omega⟩

/-- a row of parts is the result's -/
theorem RSX.givesR {w W : World} {b bx : Nat} {T l : List UInt8} (hs : RSX w b bx T l W) (row : Array Value) (L : List Ex) (hL : ExL (fun g => w.heap.size ≤ g ∧ g ≠ bx) (W.alloc (.cells row 25)) W.heap.size 0 L) (hne : 0 < L.length) (s nm : List UInt8) {o : Out} (heq : o = .ok (.mk s 0 nm L) l) :
    RPG b T o w (.returned (.agg #[.string (toB s), .int .i64 0, .string (toB nm), .slice (some ⟨W.heap.size, 0, none⟩) L.length L.length])) ((set4 W bx (.string (toB s)) (.int .i64 0) (.string (toB nm)) (.slice (some ⟨W.heap.size, 0, none⟩) L.length L.length)).alloc (.cells row 25)) ∧
      Four ((set4 W bx (.string (toB s)) (.int .i64 0) (.string (toB nm)) (.slice (some ⟨W.heap.size, 0, none⟩) L.length L.length)).alloc (.cells row 25)) bx (.string (toB s)) (.int .i64 0) (.string (toB nm)) (.slice (some ⟨W.heap.size, 0, none⟩) L.length L.length) := by
  have ba := (Below.refl W.heap.size W).alloc (Nat.le_refl _) (.cells row 25)
  have hn := hs.ne
  have hl := hs.lt
  rw [← set4_alloc W _ bx _ _ _ _ hl]
  exact (hs.below ba).gives (exv_row hL ⟨by omega, by omega⟩ (by simp) hne s nm _ rfl) heq
/-- a reading function that holds two operands in boxes -/
structure RSC (w : World) (b bx gx gy : Nat) (T l : List UInt8) (v0 v1 v2 v3 u0 u1 u2 u3 : Value) (x y : Ex) (W : World) : Prop where
  sb : RSB w b bx gx T l v0 v1 v2 v3 x W
  four : Four W gy u0 u1 u2 u3
  val : ExV (fun g => w.heap.size ≤ g ∧ g ≠ bx) W (.agg #[u0, u1, u2, u3]) y
  lt : gx < gy
theorem RSB.box2 {w w4 W : World} {b bx gx : Nat} {T l l2 : List UInt8} {v0 v1 v2 v3 u0 u1 u2 u3 : Value} {x y : Ex} (h : RSB w b bx gx T l v0 v1 v2 v3 x w4) (hr : RRd W b T l2) (ho : Only b w4 W) (hy : ExV (Nw w4) W (.agg #[u0, u1, u2, u3]) y) :
    RSC w b bx gx W.heap.size T l2 v0 v1 v2 v3 u0 u1 u2 u3 x y (W.alloc (.cells #[u0, u1, u2, u3] 25)) := by
  have ba := (Below.refl W.heap.size W).alloc (Nat.le_refl _) (.cells #[u0, u1, u2, u3] 25)
  have s1 := h.sx.only.size
  have s2 := ho.size
  have s3 := h.sx.lt
  have s4 := h.four.lt
  refine ⟨(h.step hr ho).below ba, Four.new W _ _ _ _, (hy.mono (fun g hg _ => ?_)).below ba, by omega⟩
  have hgw : w4.heap.size ≤ g := hg
  exact ⟨by omega, by omega⟩
theorem RSC.step {w W W' : World} {b bx gx gy : Nat} {T l l' : List UInt8} {v0 v1 v2 v3 u0 u1 u2 u3 : Value} {x y : Ex} (h : RSC w b bx gx gy T l v0 v1 v2 v3 u0 u1 u2 u3 x y W) (hr : RRd W' b T l') (ho : Only b W W') : RSC w b bx gx gy T l' v0 v1 v2 v3 u0 u1 u2 u3 x y W' := by
  have h1 := h.sb.sx.ne
  have h2 := h.sb.lt
  have h3 := h.lt
  exact ⟨h.sb.step hr ho, h.four.only ho (by omega), h.val.only ho (fun hh => by have := hh.1; omega), h.lt⟩
theorem RSC.below {w W W' : World} {b bx gx gy : Nat} {T l : List UInt8} {v0 v1 v2 v3 u0 u1 u2 u3 : Value} {x y : Ex} (h : RSC w b bx gx gy T l v0 v1 v2 v3 u0 u1 u2 u3 x y W) (hb : Below W.heap.size W W') : RSC w b bx gx gy T l v0 v1 v2 v3 u0 u1 u2 u3 x y W' :=
  ⟨h.sb.below hb, h.four.keep hb, h.val.below hb, h.lt⟩
/-- three operands are the parts of the result -/
theorem RSC.gives3 {w w6 W : World} {b bx gx gy : Nat} {T l l3 : List UInt8} {v0 v1 v2 v3 u0 u1 u2 u3 z0 z1 z2 z3 : Value} {x y z : Ex} (h : RSC w b bx gx gy T l v0 v1 v2 v3 u0 u1 u2 u3 x y w6) (hr : RRd W b T l3) (ho : Only b w6 W) (hz : ExV (Nw w6) W (.agg #[z0, z1, z2, z3]) z) (s : List UInt8) {o : Out} (heq : o = .ok (Go.Proofs.YtiigclkebnmopaaGreatDoor.bx s [x, y, z]) l3) :
    RPG b T o w (.returned (.agg #[.string (toB s), .int .i64 0, .string (toB []), .slice (some ⟨W.heap.size, 0, none⟩) 3 3])) ((set4 W bx (.string (toB s)) (.int .i64 0) (.string (toB [])) (.slice (some ⟨W.heap.size, 0, none⟩) 3 3)).alloc (.cells #[v0, v1, v2, v3, u0, u1, u2, u3, z0, z1, z2, z3] 25)) ∧
      Four ((set4 W bx (.string (toB s)) (.int .i64 0) (.string (toB [])) (.slice (some ⟨W.heap.size, 0, none⟩) 3 3)).alloc (.cells #[v0, v1, v2, v3, u0, u1, u2, u3, z0, z1, z2, z3] 25)) bx (.string (toB s)) (.int .i64 0) (.string (toB [])) (.slice (some ⟨W.heap.size, 0, none⟩) 3 3) := by
  have h2 := h.step hr ho
  have s1 := h.sb.sx.only.size
  have s3 := h.sb.sx.lt
  refine h2.sb.sx.givesR _ [x, y, z] (exl_three (h2.sb.val.mono (fun g hg _ => ⟨hg.1, hg.2.1⟩)) h2.val (hz.mono (fun g hg _ => ?_)) _) (by simp) s [] heq
  have hgw : w6.heap.size ≤ g := hg
  exact ⟨by omega, by omega⟩
/-- two operands are the parts of the result -/
theorem RSB.gives2 {w w6 W : World} {b bx gx : Nat} {T l l3 : List UInt8} {v0 v1 v2 v3 z0 z1 z2 z3 : Value} {x z : Ex} (h : RSB w b bx gx T l v0 v1 v2 v3 x w6) (hr : RRd W b T l3) (ho : Only b w6 W) (hz : ExV (Nw w6) W (.agg #[z0, z1, z2, z3]) z) (s : List UInt8) {o : Out} (heq : o = .ok (Go.Proofs.YtiigclkebnmopaaGreatDoor.bx s [x, z]) l3) :
    RPG b T o w (.returned (.agg #[.string (toB s), .int .i64 0, .string (toB []), .slice (some ⟨W.heap.size, 0, none⟩) 2 2])) ((set4 W bx (.string (toB s)) (.int .i64 0) (.string (toB [])) (.slice (some ⟨W.heap.size, 0, none⟩) 2 2)).alloc (.cells #[v0, v1, v2, v3, z0, z1, z2, z3] 25)) ∧
      Four ((set4 W bx (.string (toB s)) (.int .i64 0) (.string (toB [])) (.slice (some ⟨W.heap.size, 0, none⟩) 2 2)).alloc (.cells #[v0, v1, v2, v3, z0, z1, z2, z3] 25)) bx (.string (toB s)) (.int .i64 0) (.string (toB [])) (.slice (some ⟨W.heap.size, 0, none⟩) 2 2) := by
  have h2 := h.step hr ho
  have s1 := h.sx.only.size
  have s3 := h.sx.lt
  refine h2.sx.givesR _ [x, z] (exl_two (h2.val.mono (fun g hg _ => ⟨hg.1, hg.2.1⟩)) (hz.mono (fun g hg _ => ?_)) _) (by simp) s [] heq
  have hgw : w6.heap.size ≤ g := hg
  exact ⟨by omega, by omega⟩

/-- a value without parts is the result -/
theorem RSX.givesF {w W : World} {b bx : Nat} {T l : List UInt8} (h : RSX w b bx T l W) (op nm : List UInt8) (n : Int) {o : Out} (ho : o = .ok (.mk op n nm []) l) :
    RPG b T o w (.returned (.agg #[.string (toB op), .int .i64 (n : Int), .string (toB nm), .slice none 0 0])) (set4 W bx (.string (toB op)) (.int .i64 (n : Int)) (.string (toB nm)) (.slice none 0 0)) ∧ Four (set4 W bx (.string (toB op)) (.int .i64 (n : Int)) (.string (toB nm)) (.slice none 0 0)) bx (.string (toB op)) (.int .i64 (n : Int)) (.string (toB nm)) (.slice none 0 0) :=
  h.gives (ExV.flat _ W op nm n) ho

/-- what strconv.ParseUint's errors want: two variables that hold errors -/
def isErr (v : Value) : Prop := v = .nilIface ∨ ∃ t p, v = .iface t p
def RMX (b : Nat) (w : World) : Prop := b ≠ 6 ∧ b ≠ 7 ∧ 7 < w.heap.size ∧ (∃ v, w.cell? ⟨6, 0, none⟩ = some v ∧ isErr v) ∧ (∃ v, w.cell? ⟨7, 0, none⟩ = some v ∧ isErr v)
theorem RMX.only {b : Nat} {w w' : World} (h : RMX b w) (ho : Only b w w') : RMX b w' := by
  obtain ⟨h1, h2, h3, ⟨v, hv, hv'⟩, u, hu, hu'⟩ := h
  exact ⟨h1, h2, Nat.lt_of_lt_of_le h3 ho.size, ⟨v, (World.cell?_of_block (a := ⟨6, 0, none⟩) (ho.block 6 (by omega) (Ne.symm h1))).trans hv, hv'⟩, u, (World.cell?_of_block (a := ⟨7, 0, none⟩) (ho.block 7 h3 (Ne.symm h2))).trans hu, hu'⟩
/-- a reading function's contract, at a number of steps -/
def RCtr (fn : FuncId) (K : Kd) (f : Nat) (b : Nat) (T : List UInt8) : Prop := ∀ (l : List UInt8) (W : World), RRd W b T l → RMX b W → parseR f K l ≠ .none → Calls Tryz.prog fn #[.pointer (some ⟨b, 0, none⟩)] W (RPG b T (parseR f K l) W)
theorem RCtr.at {fn : FuncId} {K : Kd} {f b : Nat} {T : List UInt8} (h : RCtr fn K f b T) {w : World} (hm : RMX b w) : ∀ (l : List UInt8) (W : World), RRd W b T l → Only b w W → parseR f K l ≠ .none → Calls Tryz.prog fn #[.pointer (some ⟨b, 0, none⟩)] W (RPG b T (parseR f K l) W) :=
  fun l W hr ho hn => h l W hr (hm.only ho) hn
end Go.Proofs.YtiigclkebnmopaaGreatDoor

namespace Go.Proofs.YtiigclkebnmopaaGreatDoor
open Go.RowKit Go.Shelf

end Go.Proofs.YtiigclkebnmopaaGreatDoor

namespace Go.Proofs.YtiigclkebnmopaaGreatDoor
open Go.RowKit Go.Shelf

end Go.Proofs.YtiigclkebnmopaaGreatDoor
