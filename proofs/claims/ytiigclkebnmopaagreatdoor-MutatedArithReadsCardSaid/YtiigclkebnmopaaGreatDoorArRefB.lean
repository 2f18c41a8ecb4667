/- Arithmetic expressions: the reference's names, targets, numbers of arguments. -/
import Derived.Test.YtiigclkebnmopaaGreatDoorArRefA
import Derived.Test.YtiigclkebnmopaaGreatDoorArNum
import Derived.Test.YtiigclkebnmopaaGreatDoorArPri
namespace Go.Proofs.YtiigclkebnmopaaGreatDoor
open Go.RowKit Go.Shelf

def RIsName (s : List UInt8) (w : World) (e : Ending) (w' : World) : Prop := e = .returned (.bool (isNm s)) ∧ w = w'
set_option maxRecDepth 100000 in
set_option maxHeartbeats 1600000 in
theorem risName_any (s : List UInt8) (w : World) : Calls Tryz.prog 74 #[.string (toB s)] w (RIsName s w) := by
  obtain ⟨Q, hQ⟩ : ∃ Q, RIsName s w = Q := ⟨_, rfl⟩
  rw [hQ]
  have HQ := Lib.hid hQ
  clear hQ
  have hsz := toB_size s
  have hem : (toB s).toList = s := by simp [toB, ByteArray.toList_eq]
  cases s with
  | nil =>
    have he : (toB []).toList.isEmpty = true := by rw [hem]; rfl
    clear hem
    go_enter Tryz.func74, Tryz.ntmps74
    go_wp2_with fail
    rw [← HQ.out]
    exact ⟨rfl, rfl⟩
  | cons c r =>
    have he : (toB (c :: r)).toList.isEmpty = false := by rw [hem]; rfl
    clear hem
    obtain ⟨s, hs0⟩ : ∃ s, c :: r = s := ⟨_, rfl⟩
    have hne : 0 < s.length := by rw [← hs0]; simp
    have hat0 : ∀ h : 0 < (toB s).size, (toB s)[0]'h = c := fun h => by rw [toB_get]; subst hs0; rfl
    have HS0 := Lib.hid hs0
    rw [hs0] at hsz he HQ
    rw [hs0]
    clear hs0
    have h0 : 0 < (toB s).size := by omega
    have hat := hat0 h0
    clear hat0
    have hc := c.toNat_lt
    by_cases hl : s.length ≤ 64
    · cases hL : isL c with
      | false =>
        have hN := Lib.hid (show isNm s = false by rw [← HS0.out]; simp [isNm, hL])
        have hLB := Lib.hid (hL)
        clear hL
        go_enter Tryz.func74, Tryz.ntmps74
        go_wp2_with fail
        refine (rletter_any _ _).mono ?_
        rintro e w3 ⟨rfl, rfl⟩
        rw [hLB.out]
        go_wp2_with fail
        rw [← HQ.out]
        exact ⟨by rw [hN.out]; rfl, rfl⟩
      | true =>
        have hN := Lib.hid (show isNm s = s.all isW by rw [← HS0.out] at hl ⊢; exact isNm_let hl hL)
        have hLB := Lib.hid (hL)
        clear hL
        go_enter Tryz.func74, Tryz.ntmps74
        go_wp2_with fail
        refine (rletter_any _ _).mono ?_
        rintro e w3 ⟨rfl, rfl⟩
        rw [hLB.out]
        clear hat hc
        go_wp2_with fail
        go_loop [19] (fun s19 => ∃ k : Nat, s19 = .int .i64 (k : Int) ∧ k ≤ s.length ∧ Hid ((s.take k).all isW = true)) (fun s19 => s.length - (intOf s19).toNat)
        case atStart => exact ⟨0, rfl, Nat.zero_le _, Lib.hid rfl⟩
        case round =>
          obtain ⟨k, rfl, hk, HK⟩ := hrel
          by_cases hlt : k < s.length
          · have hb2 : k < (toB s).size := by omega
            have hg := toB_get s k hb2
            have htk := Lib.hid (List.take_succ_eq_append_getElem hlt)
            have hmem := Lib.hid (List.getElem_mem hlt)
            generalize s[k] = a at *
            have ha := a.toNat_lt
            cases hLa : isL a with
            | true =>
              have hLBa := Lib.hid (hLa)
              have HK2 := Lib.hid (show (s.take (k + 1)).all isW = true by rw [htk.out, List.all_append, HK.out]; simp [isW, hLa])
              clear hLa
              go_wp2_with fail
              refine (rletter_any _ _).mono ?_
              rintro e w3 ⟨rfl, rfl⟩
              rw [hLBa.out]
              go_wp2_with fail
              exact ⟨⟨k + 1, by go_num, by omega, HK2⟩, by simp [intOf]; omega⟩
            | false =>
              have hLBa := Lib.hid (hLa)
              cases hDa : isD a with
              | true =>
                have hDBa := Lib.hid (hDa)
                have HK2 := Lib.hid (show (s.take (k + 1)).all isW = true by rw [htk.out, List.all_append, HK.out]; simp [isW, hDa])
                clear hLa hDa
                go_wp2_with fail
                refine (rletter_any _ _).mono ?_
                rintro e w3 ⟨rfl, rfl⟩
                rw [hLBa.out]
                go_wp2_with fail
                refine (rdigit_any _ _).mono ?_
                rintro e w3 ⟨rfl, rfl⟩
                rw [hDBa.out]
                go_wp2_with fail
                exact ⟨⟨k + 1, by go_num, by omega, HK2⟩, by simp [intOf]; omega⟩
              | false =>
                have hDBa := Lib.hid (hDa)
                have HA := Lib.hid (show s.all isW = false by
                  rw [List.all_eq_false]
                  exact ⟨a, hmem.out, by simp [isW, hLa, hDa]⟩)
                clear hLa hDa
                go_wp2_with fail
                refine (rletter_any _ _).mono ?_
                rintro e w3 ⟨rfl, rfl⟩
                rw [hLBa.out]
                go_wp2_with fail
                refine (rdigit_any _ _).mono ?_
                rintro e w3 ⟨rfl, rfl⟩
                rw [hDBa.out]
                go_wp2_with fail
                rw [← HQ.out]
                exact ⟨by rw [hN.out, HA.out] <;> rfl, rfl⟩
          · obtain rfl : k = s.length := by omega
            have HA := Lib.hid (show s.all isW = true by have := HK.out; rwa [List.take_length] at this)
            go_wp2_with fail
            rw [← HQ.out]
            exact ⟨by rw [hN.out, HA.out] <;> rfl, rfl⟩
    · have hN := Lib.hid (show isNm s = false by rw [← HS0.out] at hl ⊢; exact isNm_long hl)
      have hl2 : (64 : Int) < (s.length : Int) := by omega
      go_enter Tryz.func74, Tryz.ntmps74
      go_wp2_with fail
      rw [← HQ.out]
      exact ⟨by rw [hN.out]; rfl, rfl⟩
def RIsTarget (op nm : List UInt8) (w : World) (e : Ending) (w' : World) : Prop := e = .returned (.bool (op == [101] || op == [118] && isNm nm)) ∧ Below w.heap.size w w'
set_option maxRecDepth 100000 in
set_option maxHeartbeats 1600000 in
theorem rtarget_any (op nm : List UInt8) (n : Int) (A : Option Addr) (k c : Nat) (w : World) :
    Calls Tryz.prog 81 #[.agg #[.string (toB op), .int .i64 n, .string (toB nm), .slice A k c]] w (RIsTarget op nm w) := by
  obtain ⟨Q, hQ⟩ : ∃ Q, RIsTarget op nm w = Q := ⟨_, rfl⟩
  rw [hQ]
  have HQ := Lib.hid hQ
  clear hQ
  have HB := Lib.hid ((Below.refl w.heap.size w).alloc (Nat.le_refl _) (.cells #[.string (toB op), .int .i64 n, .string (toB nm), .slice A k c] 25))
  have F1 := Lib.hid (Four.new w (.string (toB op)) (.int .i64 n) (.string (toB nm)) (.slice A k c))
  have hem : (toB op).toList = op := by simp [toB, ByteArray.toList_eq]
  by_cases h2 : op = [118]
  · have he2 : ((toB op).toList == [118]) = true := by rw [hem, h2]; rfl
    have he1 : ((toB op).toList == [101]) = false := by rw [hem, h2]; rfl
    have HR := Lib.hid (show (op == [101] || op == [118] && isNm nm) = isNm nm by rw [h2]; rfl)
    clear hem h2
    go_enter Tryz.func81, Tryz.ntmps81
    go_wp2_with fail
    refine (risName_any nm _).mono ?_
    rintro e w3 ⟨rfl, rfl⟩
    obtain ⟨q, hx⟩ : ∃ q, isNm nm = q := ⟨_, rfl⟩
    have HX := Lib.hid hx
    rw [hx]
    clear hx
    cases q
    all_goals
      go_wp2_with fail
      rw [← HQ.out]
      exact ⟨by rw [HR.out, HX.out] <;> rfl, HB.out⟩
  · have he2 : ((toB op).toList == [118]) = false := by rw [hem, beq_eq_false_iff_ne]; exact h2
    by_cases h1 : op = [101]
    · have he1 : ((toB op).toList == [101]) = true := by rw [hem, h1]; rfl
      have HR := Lib.hid (show (op == [101] || op == [118] && isNm nm) = true by rw [h1]; rfl)
      clear hem h1 h2
      go_enter Tryz.func81, Tryz.ntmps81
      go_wp2_with fail
      rw [← HQ.out]
      exact ⟨by rw [HR.out]; rfl, HB.out⟩
    · have he1 : ((toB op).toList == [101]) = false := by rw [hem, beq_eq_false_iff_ne]; exact h1
      have HR := Lib.hid (show (op == [101] || op == [118] && isNm nm) = false by simp [h1, h2])
      clear hem h1 h2
      go_enter Tryz.func81, Tryz.ntmps81
      go_wp2_with fail
      rw [← HQ.out]
      exact ⟨by rw [HR.out]; rfl, HB.out⟩
set_option maxRecDepth 100000 in
set_option maxHeartbeats 1600000 in
/-- the digits of an argument in braces -/
theorem rplain_any (s : List UInt8) (w : World) (hs : s.length ≤ 16384) :
    Calls Tryz.prog 75 #[.string (toB s)] w fun e w' => e = .returned (.bool (posOk s)) ∧ w' = w := by
  have hsz := toB_size s
  have hem : (toB s).toList = s := by simp [toB, ByteArray.toList_eq]
  by_cases h0 : s = [48]
  · have he : ((toB s).toList == [48]) = true := by rw [hem, h0]; rfl
    have HR := Lib.hid (show posOk s = true by rw [h0]; rfl)
    clear hem h0
    go_enter Tryz.func75, Tryz.ntmps75
    go_wp2_with fail
    go_ret
    exact ⟨by rw [HR.out]; rfl, rfl⟩
  · have he : ((toB s).toList == [48]) = false := by rw [hem, beq_eq_false_iff_ne]; exact h0
    cases s with
    | nil =>
      go_enter Tryz.func75, Tryz.ntmps75
      go_wp2_with fail
      go_ret
      exact ⟨rfl, rfl⟩
    | cons c r =>
      have hem2 : (toB (c :: r)).toList.isEmpty = false := by rw [hem]; rfl
      have hlen : (c :: r).length = r.length + 1 := rfl
      rw [hlen] at hsz
      have hp : 0 < (toB (c :: r)).size := by omega
      have hat : ((toB (c :: r))[0]'hp) = c := toB_get _ _ _
      have HR : Hid (posOk (c :: r) = (decide (c ≠ 48) && decide (r.length + 1 ≤ 3))) := Lib.hid (by
        unfold posOk
        rw [show (c :: r == [48]) = false by rw [beq_eq_false_iff_ne]; exact h0]
        simp
        rw [Bool.eq_iff_iff]
        simp)
      clear hem h0
      by_cases hc : c = 48
      · have hb : ((c.toNat : Int) != 48) = false := by rw [hc]; rfl
        have HF := Lib.hid (show (decide (c ≠ 48) && decide (r.length + 1 ≤ 3)) = false by simp [hc])
        clear hc
        go_enter Tryz.func75, Tryz.ntmps75
        go_wp2_with fail
        go_ret
        exact ⟨by rw [HR.out, HF.out]; rfl, rfl⟩
      · have hb : ((c.toNat : Int) != 48) = true := by
          rw [bne_iff_ne]
          intro e
          exact hc (UInt8.toNat_inj.1 (by show c.toNat = 48; omega))
        by_cases h3 : r.length + 1 ≤ 3
        · have HF := Lib.hid (show (decide (c ≠ 48) && decide (r.length + 1 ≤ 3)) = true by simp [hc]; omega)
          have h3i : (r.length : Int) + 1 ≤ 3 := by omega
          clear hc
          go_enter Tryz.func75, Tryz.ntmps75
          go_wp2_with fail
          go_ret
          exact ⟨by rw [HR.out, HF.out]; rfl, rfl⟩
        · have HF := Lib.hid (show (decide (c ≠ 48) && decide (r.length + 1 ≤ 3)) = false by simp [hc]; omega)
          have h3i : ¬ (r.length : Int) + 1 ≤ 3 := by omega
          clear hc
          go_enter Tryz.func75, Tryz.ntmps75
          go_wp2_with fail
          go_ret
          exact ⟨by rw [HR.out, HF.out]; rfl, rfl⟩

end Go.Proofs.YtiigclkebnmopaaGreatDoor

namespace Go.Proofs.YtiigclkebnmopaaGreatDoor
open Go.RowKit Go.Shelf

/-- a reading that fails ends in a panic, and so does what goes on behind it -/
theorem RPG.fail {b : Nat} {T : List UInt8} {o : Out} {W : World} {e : Ending} {w' : World} (hn : ∀ x l, o ≠ .ok x l) (h : RPG b T o W e w') : ∃ p c, e = rpan p c ∧ Only b W w' ∧ ∀ (F : Ex → List UInt8 → Out) (w : World), Only b w w' → RPG b T (o.bind F) w (rpan p c) w' := by
  cases o with
  | ok x l => exact absurd rfl (hn x l)
  | stuck l => exact h.elim
  | bad l => exact ⟨_, _, h.1, h.2, fun F w hw => ⟨rfl, hw⟩⟩
  | more => exact ⟨_, _, h.1, h.2, fun F w hw => ⟨rfl, hw⟩⟩
  | none => exact h.elim
/-- wrong at the next token, as a result -/
theorem RPG.badAt {b : Nat} {T l : List UInt8} {w w2 w' : World} {e : Ending} (h : (if gap l = [] then e = rpan T.length 27 else e = rpan (plc T (gap l)) 1) ∧ Only b w2 w') (hw : Only b w w2) : RPG b T (badAt l) w e w' ∧ ∃ p c, e = rpan p c := by
  unfold Go.Proofs.YtiigclkebnmopaaGreatDoor.badAt
  by_cases hg : gap l = []
  · rw [if_pos hg] at h ⊢
    exact ⟨⟨h.1, hw.trans h.2⟩, _, _, h.1⟩
  · rw [if_neg hg] at h ⊢
    exact ⟨⟨h.1, hw.trans h.2⟩, _, _, h.1⟩

/-- a function that reads: its result's box, the reader -/
structure RSX (w : World) (b bx : Nat) (T l : List UInt8) (W : World) : Prop where
  rd : RRd W b T l
  only : Only b w W
  res : Four W bx (.string ⟨#[]⟩) (.int .i64 0) (.string ⟨#[]⟩) (.slice none 0 0)
  ne : w.heap.size ≤ bx ∧ b < w.heap.size
theorem RSX.start {w : World} {b : Nat} {T l : List UInt8} (h : RRd w b T l) : RSX w b w.heap.size T l (w.alloc (.cells #[.string ⟨#[]⟩, .int .i64 0, .string ⟨#[]⟩, .slice none 0 0] 25)) := by
  have ba := (Below.refl w.heap.size w).alloc (Nat.le_refl _) (.cells #[.string ⟨#[]⟩, .int .i64 0, .string ⟨#[]⟩, .slice none 0 0] 25)
  exact ⟨h.keep ba, Only.of ba (Nat.le_refl _), Four.new w _ _ _ _, Nat.le_refl _, h.lt⟩
theorem RSX.step {w W W' : World} {b bx : Nat} {T l l' : List UInt8} (h : RSX w b bx T l W) (hr : RRd W' b T l') (ho : Only b W W') : RSX w b bx T l' W' :=
  ⟨hr, h.only.trans ho, h.res.only ho (by have := h.ne; omega), h.ne⟩
theorem RSX.below {w W W' : World} {b bx : Nat} {T l : List UInt8} (h : RSX w b bx T l W) (hb : Below W.heap.size W W') : RSX w b bx T l W' :=
  ⟨h.rd.keep hb, h.only.trans (Only.of hb (Nat.le_refl _)), h.res.keep hb, h.ne⟩
/-- another new block is changed -/
theorem RSX.other {w W W' : World} {b bx y : Nat} {T l : List UInt8} (h : RSX w b bx T l W) (ho : Only y W W') (hy : bx < y) : RSX w b bx T l W' :=
  ⟨h.rd.only ho (by have := h.ne; omega), h.only.new ho (by have := h.ne; omega), h.res.only ho (by omega), h.ne⟩
theorem RSX.lt {w W : World} {b bx : Nat} {T l : List UInt8} (h : RSX w b bx T l W) : bx < W.heap.size := h.res.lt
/-- the result is stored -/
theorem RSX.gives {w W : World} {b bx : Nat} {T l : List UInt8} {v0 v1 v2 v3 : Value} {x : Ex} (h : RSX w b bx T l W) (hv : ExV (fun g => w.heap.size ≤ g ∧ g ≠ bx) W (.agg #[v0, v1, v2, v3]) x) {o : Out} (ho : o = .ok x l) :
    RPG b T o w (.returned (.agg #[v0, v1, v2, v3])) (set4 W bx v0 v1 v2 v3) ∧ Four (set4 W bx v0 v1 v2 v3) bx v0 v1 v2 v3 := by
  have O5 := Only.set4 W bx v0 v1 v2 v3
  have hne := h.ne
  subst ho
  exact ⟨⟨_, rfl, (hv.only O5 (fun hh => hh.2 rfl)).mono (fun g hg _ => hg.1), h.rd.only O5 (by omega), h.only.new O5 (by omega)⟩, h.res.set _ _ _ _⟩

/-- a reading function that holds an operand in a box -/
structure RSB (w : World) (b bx gx : Nat) (T l : List UInt8) (v0 v1 v2 v3 : Value) (x : Ex) (W : World) : Prop where
  sx : RSX w b bx T l W
  four : Four W gx v0 v1 v2 v3
  val : ExV (PP w bx gx) W (.agg #[v0, v1, v2, v3]) x
  lt : bx < gx
theorem RSX.box {w w1 w2 : World} {b bx : Nat} {T l l1 : List UInt8} {v0 v1 v2 v3 : Value} {x : Ex} (h : RSX w b bx T l w1) (hr : RRd w2 b T l1) (ho : Only b w1 w2) (hx : ExV (Nw w1) w2 (.agg #[v0, v1, v2, v3]) x) :
    RSB w b bx w2.heap.size T l1 v0 v1 v2 v3 x (w2.alloc (.cells #[v0, v1, v2, v3] 25)) := by
  have ba := (Below.refl w2.heap.size w2).alloc (Nat.le_refl _) (.cells #[v0, v1, v2, v3] 25)
  have h1 := h.lt
  have h2 := ho.size
  have h3 := h.ne
  refine ⟨(h.step hr ho).below ba, Four.new w2 _ _ _ _, (hx.mono (fun g hg hgl => ?_)).below ba, by omega⟩
  have hgw : w1.heap.size ≤ g := hg
  exact ⟨by omega, by omega, by omega⟩
theorem RSB.step {w W W' : World} {b bx gx : Nat} {T l l' : List UInt8} {v0 v1 v2 v3 : Value} {x : Ex} (h : RSB w b bx gx T l v0 v1 v2 v3 x W) (hr : RRd W' b T l') (ho : Only b W W') : RSB w b bx gx T l' v0 v1 v2 v3 x W' := by
  have hne := h.sx.ne
  have hlt := h.lt
  exact ⟨h.sx.step hr ho, h.four.only ho (by omega), h.val.only ho (fun hh => by have := hh.1; omega), h.lt⟩
theorem RSB.below {w W W' : World} {b bx gx : Nat} {T l : List UInt8} {v0 v1 v2 v3 : Value} {x : Ex} (h : RSB w b bx gx T l v0 v1 v2 v3 x W) (hb : Below W.heap.size W W') : RSB w b bx gx T l v0 v1 v2 v3 x W' :=
  ⟨h.sx.below hb, h.four.keep hb, h.val.below hb, h.lt⟩
/-- the operand is the result -/
theorem RSB.gives {w W : World} {b bx gx : Nat} {T l : List UInt8} {v0 v1 v2 v3 : Value} {x : Ex} (h : RSB w b bx gx T l v0 v1 v2 v3 x W) {o : Out} (ho : o = .ok x l) :
    RPG b T o w (.returned (.agg #[v0, v1, v2, v3])) (set4 W bx v0 v1 v2 v3) ∧ Four (set4 W bx v0 v1 v2 v3) bx v0 v1 v2 v3 :=
  h.sx.gives (h.val.mono (fun _ hg _ => ⟨hg.1, hg.2.1⟩)) ho
/-- the operand is the part of the result -/
theorem RSB.gives1 {w W : World} {b bx gx : Nat} {T l : List UInt8} {v0 v1 v2 v3 : Value} {x : Ex} (h : RSB w b bx gx T l v0 v1 v2 v3 x W) (s nm : List UInt8) {o : Out} (ho : o = .ok (.mk s 0 nm [x]) l) :
    RPG b T o w (.returned (.agg #[.string (toB s), .int .i64 0, .string (toB nm), .slice (some ⟨W.heap.size, 0, none⟩) 1 1])) ((set4 W bx (.string (toB s)) (.int .i64 0) (.string (toB nm)) (.slice (some ⟨W.heap.size, 0, none⟩) 1 1)).alloc (.cells #[v0, v1, v2, v3] 25)) ∧
      Four ((set4 W bx (.string (toB s)) (.int .i64 0) (.string (toB nm)) (.slice (some ⟨W.heap.size, 0, none⟩) 1 1)).alloc (.cells #[v0, v1, v2, v3] 25)) bx (.string (toB s)) (.int .i64 0) (.string (toB nm)) (.slice (some ⟨W.heap.size, 0, none⟩) 1 1) := by
  have ba := (Below.refl W.heap.size W).alloc (Nat.le_refl _) (.cells #[v0, v1, v2, v3] 25)
  have hne := h.sx.ne
  have hl := h.sx.lt
  rw [← set4_alloc W _ bx _ _ _ _ hl]
  exact (h.sx.below ba).gives (exv_row (exl_one (h.val.mono (fun _ hg _ => ⟨hg.1, hg.2.1⟩)) _) ⟨by omega, by omega⟩ (by simp) (by simp) s nm _ rfl) ho

/-- a value is stored as the result -/
theorem RSX.givesV {w W : World} {b bx : Nat} {T l l' : List UInt8} {W0 : World} {v0 v1 v2 v3 : Value} {x : Ex} (h0 : RSX w b bx T l W0) (hr : RRd W b T l') (ho : Only b W0 W) (hx : ExV (Nw W0) W (.agg #[v0, v1, v2, v3]) x) {o : Out} (heq : o = .ok x l') :
    RPG b T o w (.returned (.agg #[v0, v1, v2, v3])) (set4 W bx v0 v1 v2 v3) ∧ Four (set4 W bx v0 v1 v2 v3) bx v0 v1 v2 v3 := by
  have h1 := h0.lt
  have h3 := h0.ne
  refine (h0.step hr ho).gives (hx.mono (fun g hg _ => ?_)) heq
  have hgw : W0.heap.size ≤ g := hg
  exact ⟨by omega, by omega⟩
/-- a value is the part of the result -/
theorem RSX.givesV1 {w W : World} {b bx : Nat} {T l l' : List UInt8} {W0 : World} {v0 v1 v2 v3 : Value} {x : Ex} (h0 : RSX w b bx T l W0) (hr : RRd W b T l') (ho : Only b W0 W) (hx : ExV (Nw W0) W (.agg #[v0, v1, v2, v3]) x) (s nm : List UInt8) {o : Out} (heq : o = .ok (.mk s 0 nm [x]) l') :
    RPG b T o w (.returned (.agg #[.string (toB s), .int .i64 0, .string (toB nm), .slice (some ⟨W.heap.size, 0, none⟩) 1 1])) ((set4 W bx (.string (toB s)) (.int .i64 0) (.string (toB nm)) (.slice (some ⟨W.heap.size, 0, none⟩) 1 1)).alloc (.cells #[v0, v1, v2, v3] 25)) ∧
      Four ((set4 W bx (.string (toB s)) (.int .i64 0) (.string (toB nm)) (.slice (some ⟨W.heap.size, 0, none⟩) 1 1)).alloc (.cells #[v0, v1, v2, v3] 25)) bx (.string (toB s)) (.int .i64 0) (.string (toB nm)) (.slice (some ⟨W.heap.size, 0, none⟩) 1 1) := by
  have ba := (Below.refl W.heap.size W).alloc (Nat.le_refl _) (.cells #[v0, v1, v2, v3] 25)
  have h1 := h0.lt
  have h2 := ho.size
  have h3 := h0.ne
  have hs := h0.step hr ho
  have hl := hs.lt
  rw [← set4_alloc W _ bx _ _ _ _ hl]
  refine (hs.below ba).gives (exv_row (exl_one (hx.mono (fun g hg _ => ?_)) _) ⟨by omega, by omega⟩ (by simp) (by simp) s nm _ rfl) heq
  have hgw : W0.heap.size ≤ g := hg
  exact ⟨by omega, by omega⟩

/-- two operands in a row of their own: the next first operand -/
theorem RSB.join {w w4 W : World} {b bx gx : Nat} {T l1 l2 : List UInt8} {v0 v1 v2 v3 u0 u1 u2 u3 : Value} {x y : Ex} (h : RSB w b bx gx T l1 v0 v1 v2 v3 x w4) (hr : RRd W b T l2) (ho : Only b w4 W) (hy : ExV (Nw w4) W (.agg #[u0, u1, u2, u3]) y) (s : List UInt8) :
    RSB w b bx gx T l2 (.string (toB s)) (.int .i64 0) (.string (toB [])) (.slice (some ⟨W.heap.size, 0, none⟩) 2 2) (Go.Proofs.YtiigclkebnmopaaGreatDoor.bx s [x, y]) ((set4 W gx (.string (toB s)) (.int .i64 0) (.string (toB [])) (.slice (some ⟨W.heap.size, 0, none⟩) 2 2)).alloc (.cells #[v0, v1, v2, v3, u0, u1, u2, u3] 25)) := by
  have ba := (Below.refl W.heap.size W).alloc (Nat.le_refl _) (.cells #[v0, v1, v2, v3, u0, u1, u2, u3] 25)
  have s1 := h.sx.only.size
  have s2 := ho.size
  have s3 := h.sx.lt
  have s4 := h.four.lt
  have h2 := h.step hr ho
  have h3 := h2.below ba
  have s5 := h2.four.lt
  have hlt := h.lt
  rw [← set4_alloc W _ gx _ _ _ _ s5]
  have O := Only.set4 (W.alloc (.cells #[v0, v1, v2, v3, u0, u1, u2, u3] 25)) gx (.string (toB s)) (.int .i64 0) (.string (toB [])) (.slice (some ⟨W.heap.size, 0, none⟩) 2 2)
  refine ⟨h3.sx.other O hlt, h3.four.set _ _ _ _, ?_, hlt⟩
  refine ExV.only (exv_row (exl_two h2.val (hy.mono (fun g hg _ => ?_)) _) ⟨by omega, by omega, by omega⟩ (by simp) (by simp) s [] _ rfl) O (fun hh => hh.2.2 rfl)
  have hgw : w4.heap.size ≤ g := hg
  exact ⟨by omega, by omega, by omega⟩

/-- a row of parts is the result's -/
theorem RSX.givesR {w W : World} {b bx : Nat} {T l : List UInt8} (hs : RSX w b bx T l W) (row : Array Value) (L : List Ex) (hL : ExL (fun g => w.heap.size ≤ g ∧ g ≠ bx) (W.alloc (.cells row 25)) W.heap.size 0 L) (hne : 0 < L.length) (s nm : List UInt8) {o : Out} (heq : o = .ok (.mk s 0 nm L) l) :
    RPG b T o w (.returned (.agg #[.string (toB s), .int .i64 0, .string (toB nm), .slice (some ⟨W.heap.size, 0, none⟩) L.length L.length])) ((set4 W bx (.string (toB s)) (.int .i64 0) (.string (toB nm)) (.slice (some ⟨W.heap.size, 0, none⟩) L.length L.length)).alloc (.cells row 25)) ∧
      Four ((set4 W bx (.string (toB s)) (.int .i64 0) (.string (toB nm)) (.slice (some ⟨W.heap.size, 0, none⟩) L.length L.length)).alloc (.cells row 25)) bx (.string (toB s)) (.int .i64 0) (.string (toB nm)) (.slice (some ⟨W.heap.size, 0, none⟩) L.length L.length) := by
  have ba := (Below.refl W.heap.size W).alloc (Nat.le_refl _) (.cells row 25)
  have hn := hs.ne
  have hl := hs.lt
  rw [← set4_alloc W _ bx _ _ _ _ hl]
  exact (hs.below ba).gives (exv_row hL ⟨by omega, by omega⟩ (by simp) hne s nm _ rfl) heq
/-- a reading function that holds two operands in boxes -/
structure RSC (w : World) (b bx gx gy : Nat) (T l : List UInt8) (v0 v1 v2 v3 u0 u1 u2 u3 : Value) (x y : Ex) (W : World) : Prop where
  sb : RSB w b bx gx T l v0 v1 v2 v3 x W
  four : Four W gy u0 u1 u2 u3
  val : ExV (fun g => w.heap.size ≤ g ∧ g ≠ bx) W (.agg #[u0, u1, u2, u3]) y
  lt : gx < gy
theorem RSB.box2 {w w4 W : World} {b bx gx : Nat} {T l l2 : List UInt8} {v0 v1 v2 v3 u0 u1 u2 u3 : Value} {x y : Ex} (h : RSB w b bx gx T l v0 v1 v2 v3 x w4) (hr : RRd W b T l2) (ho : Only b w4 W) (hy : ExV (Nw w4) W (.agg #[u0, u1, u2, u3]) y) :
    RSC w b bx gx W.heap.size T l2 v0 v1 v2 v3 u0 u1 u2 u3 x y (W.alloc (.cells #[u0, u1, u2, u3] 25)) := by
  have ba := (Below.refl W.heap.size W).alloc (Nat.le_refl _) (.cells #[u0, u1, u2, u3] 25)
  have s1 := h.sx.only.size
  have s2 := ho.size
  have s3 := h.sx.lt
  have s4 := h.four.lt
  refine ⟨(h.step hr ho).below ba, Four.new W _ _ _ _, (hy.mono (fun g hg _ => ?_)).below ba, by omega⟩
  have hgw : w4.heap.size ≤ g := hg
  exact ⟨by omega, by omega⟩
theorem RSC.step {w W W' : World} {b bx gx gy : Nat} {T l l' : List UInt8} {v0 v1 v2 v3 u0 u1 u2 u3 : Value} {x y : Ex} (h : RSC w b bx gx gy T l v0 v1 v2 v3 u0 u1 u2 u3 x y W) (hr : RRd W' b T l') (ho : Only b W W') : RSC w b bx gx gy T l' v0 v1 v2 v3 u0 u1 u2 u3 x y W' := by
  have h1 := h.sb.sx.ne
  have h2 := h.sb.lt
  have h3 := h.lt
  exact ⟨h.sb.step hr ho, h.four.only ho (by omega), h.val.only ho (fun hh => by have := hh.1; omega), h.lt⟩
theorem RSC.below {w W W' : World} {b bx gx gy : Nat} {T l : List UInt8} {v0 v1 v2 v3 u0 u1 u2 u3 : Value} {x y : Ex} (h : RSC w b bx gx gy T l v0 v1 v2 v3 u0 u1 u2 u3 x y W) (hb : Below W.heap.size W W') : RSC w b bx gx gy T l v0 v1 v2 v3 u0 u1 u2 u3 x y W' :=
  ⟨h.sb.below hb, h.four.keep hb, h.val.below hb, h.lt⟩
/-- three operands are the parts of the result -/
theorem RSC.gives3 {w w6 W : World} {b bx gx gy : Nat} {T l l3 : List UInt8} {v0 v1 v2 v3 u0 u1 u2 u3 z0 z1 z2 z3 : Value} {x y z : Ex} (h : RSC w b bx gx gy T l v0 v1 v2 v3 u0 u1 u2 u3 x y w6) (hr : RRd W b T l3) (ho : Only b w6 W) (hz : ExV (Nw w6) W (.agg #[z0, z1, z2, z3]) z) (s : List UInt8) {o : Out} (heq : o = .ok (Go.Proofs.YtiigclkebnmopaaGreatDoor.bx s [x, y, z]) l3) :
    RPG b T o w (.returned (.agg #[.string (toB s), .int .i64 0, .string (toB []), .slice (some ⟨W.heap.size, 0, none⟩) 3 3])) ((set4 W bx (.string (toB s)) (.int .i64 0) (.string (toB [])) (.slice (some ⟨W.heap.size, 0, none⟩) 3 3)).alloc (.cells #[v0, v1, v2, v3, u0, u1, u2, u3, z0, z1, z2, z3] 25)) ∧
      Four ((set4 W bx (.string (toB s)) (.int .i64 0) (.string (toB [])) (.slice (some ⟨W.heap.size, 0, none⟩) 3 3)).alloc (.cells #[v0, v1, v2, v3, u0, u1, u2, u3, z0, z1, z2, z3] 25)) bx (.string (toB s)) (.int .i64 0) (.string (toB [])) (.slice (some ⟨W.heap.size, 0, none⟩) 3 3) := by
  have h2 := h.step hr ho
  have s1 := h.sb.sx.only.size
  have s3 := h.sb.sx.lt
  refine h2.sb.sx.givesR _ [x, y, z] (exl_three (h2.sb.val.mono (fun g hg _ => ⟨hg.1, hg.2.1⟩)) h2.val (hz.mono (fun g hg _ => ?_)) _) (by simp) s [] heq
  have hgw : w6.heap.size ≤ g := hg
  exact ⟨by omega, by omega⟩
/-- two operands are the parts of the result -/
theorem RSB.gives2 {w w6 W : World} {b bx gx : Nat} {T l l3 : List UInt8} {v0 v1 v2 v3 z0 z1 z2 z3 : Value} {x z : Ex} (h : RSB w b bx gx T l v0 v1 v2 v3 x w6) (hr : RRd W b T l3) (ho : Only b w6 W) (hz : ExV (Nw w6) W (.agg #[z0, z1, z2, z3]) z) (s : List UInt8) {o : Out} (heq : o = .ok (Go.Proofs.YtiigclkebnmopaaGreatDoor.bx s [x, z]) l3) :
    RPG b T o w (.returned (.agg #[.string (toB s), .int .i64 0, .string (toB []), .slice (some ⟨W.heap.size, 0, none⟩) 2 2])) ((set4 W bx (.string (toB s)) (.int .i64 0) (.string (toB [])) (.slice (some ⟨W.heap.size, 0, none⟩) 2 2)).alloc (.cells #[v0, v1, v2, v3, z0, z1, z2, z3] 25)) ∧
      Four ((set4 W bx (.string (toB s)) (.int .i64 0) (.string (toB [])) (.slice (some ⟨W.heap.size, 0, none⟩) 2 2)).alloc (.cells #[v0, v1, v2, v3, z0, z1, z2, z3] 25)) bx (.string (toB s)) (.int .i64 0) (.string (toB [])) (.slice (some ⟨W.heap.size, 0, none⟩) 2 2) := by
  have h2 := h.step hr ho
  have s1 := h.sx.only.size
  have s3 := h.sx.lt
  refine h2.sx.givesR _ [x, z] (exl_two (h2.val.mono (fun g hg _ => ⟨hg.1, hg.2.1⟩)) (hz.mono (fun g hg _ => ?_)) _) (by simp) s [] heq
  have hgw : w6.heap.size ≤ g := hg
  exact ⟨by omega, by omega⟩

/-- a value without parts is the result -/
theorem RSX.givesF {w W : World} {b bx : Nat} {T l : List UInt8} (h : RSX w b bx T l W) (op nm : List UInt8) (n : Int) {o : Out} (ho : o = .ok (.mk op n nm []) l) :
    RPG b T o w (.returned (.agg #[.string (toB op), .int .i64 (n : Int), .string (toB nm), .slice none 0 0])) (set4 W bx (.string (toB op)) (.int .i64 (n : Int)) (.string (toB nm)) (.slice none 0 0)) ∧ Four (set4 W bx (.string (toB op)) (.int .i64 (n : Int)) (.string (toB nm)) (.slice none 0 0)) bx (.string (toB op)) (.int .i64 (n : Int)) (.string (toB nm)) (.slice none 0 0) :=
  h.gives (ExV.flat _ W op nm n) ho

/-- what strconv.ParseUint's errors want: two variables that hold errors -/
def isErr (v : Value) : Prop := v = .nilIface ∨ ∃ t p, v = .iface t p
def RMX (b : Nat) (w : World) : Prop := b ≠ 6 ∧ b ≠ 7 ∧ 7 < w.heap.size ∧ (∃ v, w.cell? ⟨6, 0, none⟩ = some v ∧ isErr v) ∧ (∃ v, w.cell? ⟨7, 0, none⟩ = some v ∧ isErr v)
theorem RMX.only {b : Nat} {w w' : World} (h : RMX b w) (ho : Only b w w') : RMX b w' := by
  obtain ⟨h1, h2, h3, ⟨v, hv, hv'⟩, u, hu, hu'⟩ := h
  exact ⟨h1, h2, Nat.lt_of_lt_of_le h3 ho.size, ⟨v, (World.cell?_of_block (a := ⟨6, 0, none⟩) (ho.block 6 (by omega) (Ne.symm h1))).trans hv, hv'⟩, u, (World.cell?_of_block (a := ⟨7, 0, none⟩) (ho.block 7 h3 (Ne.symm h2))).trans hu, hu'⟩
/-- a reading function's contract, at a number of steps -/
def RCtr (fn : FuncId) (K : Kd) (f : Nat) (b : Nat) (T : List UInt8) : Prop := ∀ (l : List UInt8) (W : World), RRd W b T l → RMX b W → parseR f K l ≠ .none → Calls Tryz.prog fn #[.pointer (some ⟨b, 0, none⟩)] W (RPG b T (parseR f K l) W)
theorem RCtr.at {fn : FuncId} {K : Kd} {f b : Nat} {T : List UInt8} (h : RCtr fn K f b T) {w : World} (hm : RMX b w) : ∀ (l : List UInt8) (W : World), RRd W b T l → Only b w W → parseR f K l ≠ .none → Calls Tryz.prog fn #[.pointer (some ⟨b, 0, none⟩)] W (RPG b T (parseR f K l) W) :=
  fun l W hr ho hn => h l W hr (hm.only ho) hn
/-- the contract of the levels -/
def RCtrL (lv f b : Nat) (T : List UInt8) : Prop := ∀ (l : List UInt8) (W : World), RRd W b T l → RMX b W → parseR f (.lev lv) l ≠ .none → Calls Tryz.prog 159 #[.pointer (some ⟨b, 0, none⟩), .int .i64 (lv : Int)] W (RPG b T (parseR f (.lev lv) l) W)

end Go.Proofs.YtiigclkebnmopaaGreatDoor

namespace Go.Proofs.YtiigclkebnmopaaGreatDoor
open Go.RowKit Go.Shelf

def sufR (x : Ex) (l1 : List UInt8) : Out := if (sg l1 = [43, 43] ∨ sg l1 = [45, 45]) ∧ target x = true then .ok (bx (118 :: sg l1) [x]) (aft (sg l1) l1) else .ok x (gap l1)
theorem parseR_suf (f : Nat) (l : List UInt8) : parseR (f + 1) .suf l = (parseR f .prim l).bind sufR := rfl
def ppS : List (List UInt8) := [[43, 43], [45, 45]]
theorem ppS_in : ∀ t ∈ ppS, t ∈ signs ∧ (0 : UInt8) ∉ t ∧ t.length ≤ 100 ∧ t ≠ [] := by decide
theorem ppS_is (t : List UInt8) (h : t ∈ ppS) : t = [43, 43] ∨ t = [45, 45] := by simpa [ppS] using h
set_option maxRecDepth 100000 in
set_option maxHeartbeats 6400000 in
theorem postfix_any (f b : Nat) (T : List UInt8) (hP : RCtr 216 .prim f b T) : RCtr 217 .suf (f + 1) b T := by
  intro l w h hm hn
  rw [parseR_suf] at hn ⊢
  have HPr := Lib.hid (hP.at hm l)
  have HNn := Lib.hid (bind_none hn)
  have HX0 := Lib.hid (RSX.start h)
  have HPk := Lib.hid (fun l' W hW => apeek_any b T l' W hW)
  have HGt := Lib.hid (fun l' s W hW hs hz => rgot_any b T l' s W hW hs hz)
  have hlt := h.lt
  obtain ⟨o, ho⟩ : ∃ o, parseR f .prim l = o := ⟨_, rfl⟩
  rw [ho] at HPr HNn ⊢
  obtain ⟨Q, hQ⟩ : ∃ Q, RPG b T (o.bind sufR) w = Q := ⟨_, rfl⟩
  rw [hQ]
  have HQ := Lib.hid hQ
  clear hQ h hn ho hP
  go_enter Tryz.func217, Tryz.ntmps217
  go_wp2_with fail
  generalize w.alloc (.cells #[.string ⟨#[]⟩, .int .i64 0, .string ⟨#[]⟩, .slice none 0 0] 25) = w1 at *
  refine (HPr.out _ HX0.out.rd HX0.out.only HNn.out).mono ?_
  intro e w2 hp
  rcases out_cases o with ⟨x, l1, rfl⟩ | hno
  · obtain ⟨v, rfl, hx, hr2, ho2⟩ := hp
    obtain ⟨n, A, k, c, nm, rfl, hnm⟩ := hx.form
    have HB := Lib.hid (HX0.out.box hr2 ho2 hx)
    have HNm := Lib.hid hnm
    clear hx hr2 ho2 hnm HPr HNn
    obtain ⟨bx, hbx⟩ : ∃ bx, w.heap.size = bx := ⟨_, rfl⟩
    rw [hbx] at HB
    simp only [hbx]
    clear hbx HX0
    have ht : (x.op == [101] || x.op == [118] && isNm nm) = target x := by rw [HNm.out]; rfl
    have HT := Lib.hid ht
    clear ht
    go_wp2_with fail
    have hs3 : (w2.alloc (.cells #[.string (toB x.op), .int .i64 (n : Int), .string (toB nm), .slice A k c] 25)).heap.size = w2.heap.size + 1 := by simp
    generalize w2.alloc (.cells #[.string (toB x.op), .int .i64 (n : Int), .string (toB nm), .slice A k c] 25) = w3 at *
    have ba := (Below.refl w3.heap.size w3).alloc (Nat.le_refl _) (.cells #[.string ⟨#[43, 43]⟩, .string ⟨#[45, 45]⟩] 9)
    have HB3 := Lib.hid (HB.out.below ba)
    have HTX := Lib.hid (TX.new w3 #[.string ⟨#[43, 43]⟩, .string ⟨#[45, 45]⟩] 9 ppS rfl)
    have hs4 : w3.heap.size < (w3.alloc (.cells #[.string ⟨#[43, 43]⟩, .string ⟨#[45, 45]⟩] 9)).heap.size := by simp
    have hgb : w3.heap.size ≠ b := by have := HB.out.sx.rd.lt; omega
    clear ba HB
    generalize w3.alloc (.cells #[.string ⟨#[43, 43]⟩, .string ⟨#[45, 45]⟩] 9) = w4 at *
    rw [hs3] at HTX hs4 hgb
    clear hs3
    generalize w2.heap.size = gx at *
    go_loopw [10] (fun s10 wr => ∃ (i : Nat) (l' : List UInt8), s10 = .int .i64 (i : Int) ∧ i ≤ 2 ∧ Hid (l' = if i = 0 then l1 else gap l1) ∧ Hid (RSB w b bx gx T l' (.string (toB x.op)) (.int .i64 (n : Int)) (.string (toB nm)) (.slice A k c) x wr) ∧ Hid (TX wr (gx + 1) 0 ppS) ∧ gx + 1 < wr.heap.size ∧ Hid (∀ j (h : j < ppS.length), j < i → ¬ (sg l1 = ppS[j] ∧ target x = true))) (fun s10 _ => 2 - (intOf s10).toNat)
    case atStart => exact ⟨0, l1, rfl, by omega, Lib.hid rfl, HB3, HTX, hs4, Lib.hid (fun j _ h => absurd h (Nat.not_lt_zero _))⟩
    case round =>
      clear HB3 HTX hs4
      obtain ⟨i, l', rfl, hi, HL, HB, HTX, hgl, HJ⟩ := hrel
      have HSg := Lib.hid (show sg l' = sg l1 ∧ gap l' = gap l1 by rw [HL.out]; split <;> simp [sg_gap, gap_gap])
      by_cases hlt2 : i < 2
      · have hlt' : i < ppS.length := hlt2
        have cl := HTX.out i hlt'
        rw [Nat.zero_add] at cl
        have hin := ppS_in _ (List.getElem_mem hlt')
        have HJ' := Lib.hid (fun (hx : ¬ (sg l1 = ppS[i] ∧ target x = true)) => (show ∀ j (h : j < ppS.length), j < i + 1 → ¬ (sg l1 = ppS[j] ∧ target x = true) from fun j h hj => by
          rcases Nat.lt_succ_iff_lt_or_eq.1 hj with h1 | h1
          · exact HJ.out j h h1
          · subst h1
            exact hx))
        have HM := Lib.hid (show ppS[i] = [43, 43] ∨ ppS[i] = [45, 45] from ppS_is _ (List.getElem_mem hlt'))
        generalize ppS[i] = t at *
        have hbe : ((toB (sg l')).toList == (toB t).toList) = decide (sg l1 = t) := by rw [toB_eq, HSg.out.1]
        have hgn : Hid ((if i + 1 = 0 then l1 else gap l1) = gap l1) := Lib.hid (if_neg (by omega))
        have htz := hin.2
        clear HJ hin
        go_wp2_with fail
        refine (HPk.out l' _ HB.out.sx.rd).mono ?_
        rintro e w5 ⟨rfl, hr5, ho5⟩
        have HB5 := Lib.hid (HB.out.step hr5 ho5)
        rw [HSg.out.2] at HB5
        have HTX5 : Hid (TX w5 (gx + 1) 0 ppS) := Lib.hid (fun j hj => (World.cell?_of_block (a := ⟨gx + 1, 0 + j, none⟩) (ho5.block (gx + 1) hgl hgb)).trans (HTX.out j hj))
        have hgl5 : gx + 1 < w5.heap.size := Nat.lt_of_lt_of_le hgl ho5.size
        clear hr5 ho5 HB HTX hgl cl
        obtain ⟨c0, c1, c2, c3, cf⟩ := HB5.out.four.cells
        by_cases hs : sg l1 = t
        · have hbt : ((toB (sg l')).toList == (toB t).toList) = true := by rw [hbe, hs]; simp
          have HS := Lib.hid hs
          have HTk := Lib.hid (show takeS t (gap l1) = some (aft t l1) by
            have := (sg_some (l := l1) (by rw [hs]; exact htz.2.2)).2
            rw [hs] at this
            exact this)
          clear hbe hs
          go_wp2_with fail
          refine (rtarget_any x.op nm (n : Int) A k c _).mono ?_
          rintro e w6 ⟨rfl, hb6⟩
          rw [HT.out]
          have HB6 := Lib.hid (HB5.out.below hb6)
          have HTX6 := Lib.hid (HTX5.out.keep hb6 hgl5)
          have hgl6 : gx + 1 < w6.heap.size := Nat.lt_of_lt_of_le hgl5 hb6.size
          clear c0 c1 c2 c3 cf hb6 HB5 HTX5 hgl5
          cases htx : target x with
          | true =>
            have HO2 := Lib.hid (show (Out.ok x l1).bind sufR = .ok (Go.Proofs.YtiigclkebnmopaaGreatDoor.bx (118 :: t) [x]) (aft t l1) by
              show sufR x l1 = _
              unfold sufR
              rw [HS.out, if_pos ⟨HM.out, htx⟩])
            clear htx
            go_wp2_with fail
            refine (HGt.out (gap l1) t _ HB6.out.sx.rd htz.2.1 htz.1).mono ?_
            rintro e w7 ⟨rfl, hr7, ho7⟩
            rw [HTk.out] at hr7 ⊢
            have HB7 := Lib.hid (HB6.out.step hr7 ho7)
            clear hr7 ho7
            obtain ⟨c0, c1, c2, c3, cf⟩ := HB7.out.four.cells
            obtain ⟨d0, d1, d2, d3, df⟩ := HB7.out.sx.res.cells
            have hcat : (⟨#[118]⟩ : ByteArray) ++ toB t = toB (118 :: t) := toB_cat [118] t
            have hts := toB_size t
            have hsz2 : ¬ 9223372036854775807 < 1 + (toB t).size := by have := htz.2.1; omega
            have hlt7 := HB7.out.sx.lt
            go_wp2_with fail
            have HE := Lib.hid (HB7.out.gives1 (118 :: t) [] HO2.out)
            obtain ⟨q0, q1, q2, q3, qf⟩ := HE.out.2.cells
            unfold set4 at q0 q1 q2 q3
            rw [show toB [] = (⟨#[]⟩ : ByteArray) from rfl] at q0 q1 q2 q3
            refine bodyPost_ret (v := .agg #[.string (toB (118 :: t)), .int .i64 0, .string ⟨#[]⟩, .slice (some ⟨w7.heap.size, 0, none⟩) 1 1]) (by simp [results, Tryz.results217, go_sem, q0, q1, q2, q3]) rfl ?_
            rw [← HQ.out]
            exact HE.out.1
          | false =>
            have HJ2 := Lib.hid (HJ'.out (fun h => by rw [htx] at h; exact absurd h.2 (by decide)))
            clear htx
            go_wp2_with fail
            exact ⟨⟨i + 1, gap l1, by go_num, by omega, Lib.hid hgn.out.symm, HB6, HTX6, hgl6, HJ2⟩, by simp [intOf]; omega⟩
        · have hbt : ((toB (sg l')).toList == (toB t).toList) = false := by rw [hbe]; simpa using hs
          have HJ2 := Lib.hid (HJ'.out (fun h => hs h.1))
          clear hbe hs
          go_wp2_with fail
          exact ⟨⟨i + 1, gap l1, by go_num, by omega, Lib.hid hgn.out.symm, HB5, HTX5, hgl5, HJ2⟩, by simp [intOf]; omega⟩
      · obtain rfl : i = 2 := by omega
        have HLg := Lib.hid (show l' = gap l1 from HL.out)
        have HO := Lib.hid (show (Out.ok x l1).bind sufR = .ok x (gap l1) by
          show sufR x l1 = _
          unfold sufR
          rw [if_neg]
          rintro ⟨h1, h2⟩
          rcases h1 with h1 | h1
          · exact HJ.out 0 (by decide) (by omega) ⟨h1, h2⟩
          · exact HJ.out 1 (by decide) (by omega) ⟨h1, h2⟩)
        rw [HLg.out] at HB
        clear HJ HSg HL
        obtain ⟨c0, c1, c2, c3, cf⟩ := HB.out.four.cells
        obtain ⟨d0, d1, d2, d3, df⟩ := HB.out.sx.res.cells
        go_wp2_with fail
        have HE := Lib.hid (HB.out.gives HO.out)
        obtain ⟨q0, q1, q2, q3, qf⟩ := HE.out.2.cells
        unfold set4 at q0 q1 q2 q3
        refine bodyPost_ret (v := .agg #[.string (toB x.op), .int .i64 (n : Int), .string (toB nm), .slice A k c]) (by simp [results, Tryz.results217, go_sem, q0, q1, q2, q3]) rfl ?_
        rw [← HQ.out]
        exact HE.out.1
  · obtain ⟨p, c, rfl, ho2, HF⟩ := RPG.fail hno hp
    have HO2 := Lib.hid (HX0.out.only.trans ho2)
    have HFF := Lib.hid HF
    clear hp hno ho2 HF HPr HNn
    unfold rpan
    go_wp2_with fail
    rw [← HQ.out]
    exact ⟨rfl, HFF.out _ _ HO2.out⟩

end Go.Proofs.YtiigclkebnmopaaGreatDoor

namespace Go.Proofs.YtiigclkebnmopaaGreatDoor
open Go.RowKit Go.Shelf

theorem parseR_pre (f : Nat) (l : List UInt8) : parseR (f + 1) .pre l = if sg l = [43, 43] ∨ sg l = [45, 45] then (parseR f .prim (gap (aft (sg l) l))).bind (preK (sg l) (gap (aft (sg l) l)))
    else if sg l = [45] ∨ sg l = [43] then (parseR f .pre (aft (sg l) l)).bind fun x l1 => .ok (bx (117 :: sg l) [x]) l1
    else if sg l = [33] ∨ sg l = [126] then (parseR f .pre (aft (sg l) l)).bind fun x l1 => .ok (bx (sg l) [x]) l1
    else parseR f .suf (gap l) := rfl
theorem sg_take {l : List UInt8} (h : sg l ≠ []) : takeS (sg l) (gap l) = some (aft (sg l) l) ∧ (0 : UInt8) ∉ sg l ∧ (sg l).length ≤ 100 := by
  have h1 := sg_some h
  have h2 := rsigns_fine _ ((signs_same _).1 h1.1)
  exact ⟨h1.2, h2.1, h2.2⟩
set_option maxRecDepth 100000 in
set_option maxHeartbeats 6400000 in
theorem rprefix_any (f b : Nat) (T : List UInt8) (hP : RCtr 216 .prim f b T) (hS : RCtr 217 .suf f b T) (hR : RCtr 200 .pre f b T) : RCtr 200 .pre (f + 1) b T := by
  intro l w h hm hn
  have HX0 := Lib.hid (RSX.start h)
  have HPk := Lib.hid (fun l' W hW => apeek_any b T l' W hW)
  have HGt := Lib.hid (fun l' s W hW hs hz => rgot_any b T l' s W hW hs hz)
  have HGp := Lib.hid (fun l' W hW => rgap_any b T l' W hW)
  have HPr := Lib.hid (hP.at hm)
  have HSu := Lib.hid (hS.at hm)
  have HRe := Lib.hid (hR.at hm)
  have HNn := Lib.hid hn
  have hlt := h.lt
  obtain ⟨o, ho⟩ : ∃ o, parseR (f + 1) .pre l = o := ⟨_, rfl⟩
  have HO := Lib.hid ho
  obtain ⟨Q, hQ⟩ : ∃ Q, RPG b T o w = Q := ⟨_, rfl⟩
  rw [ho, hQ]
  have HQ := Lib.hid hQ
  clear hQ h hn hP hS hR ho
  go_enter Tryz.func200, Tryz.ntmps200
  go_wp2_with fail
  generalize w.alloc (.cells #[.string ⟨#[]⟩, .int .i64 0, .string ⟨#[]⟩, .slice none 0 0] 25) = w1 at *
  obtain ⟨bx, hbx⟩ : ∃ bx, w.heap.size = bx := ⟨_, rfl⟩
  rw [hbx] at HX0
  simp only [hbx]
  clear hbx
  refine (HPk.out l _ HX0.out.rd).mono ?_
  rintro e w2 ⟨rfl, hr2, ho2⟩
  have HX1 := Lib.hid (HX0.out.step hr2 ho2)
  have hsl : (toB (sg l)).toList = sg l := by simp [toB, ByteArray.toList_eq]
  have hsz := sg_len l
  clear hr2 ho2 HX0
  have t1 : ∀ q : List UInt8, ((toB (sg l)).toList == q) = decide (sg l = q) := fun q => by rw [hsl, Bool.eq_iff_iff]; simp
  have HPre := Lib.hid ((parseR_pre f l).symm.trans HO.out)
  have HOn := Lib.hid (show o ≠ .none by rw [← HO.out]; exact HNn.out)
  by_cases h1 : sg l = [43, 43] ∨ sg l = [45, 45]
  · have HO2 := Lib.hid ((if_pos h1).symm.trans HPre.out)
    have HNn2 := Lib.hid (show parseR f .prim (gap (aft (sg l) l)) ≠ .none from bind_none (by rw [HO2.out]; exact HOn.out))
    have hcat : toB (sg l) ++ (⟨#[118]⟩ : ByteArray) = toB (sg l ++ [118]) := toB_cat (sg l) [118]
    have HTk := Lib.hid (sg_take (l := l) (by rcases h1 with h | h <;> rw [h] <;> simp))
    have he : ((toB (sg l)).toList == [45]) = false ∧ ((toB (sg l)).toList == [43]) = false ∧ ((toB (sg l)).toList == [33]) = false ∧ ((toB (sg l)).toList == [126]) = false := by
      rw [hsl]
      rcases h1 with h1 | h1 <;> rw [h1] <;> simp
    obtain ⟨e1, e2, e3, e4⟩ := he
    have he : ((toB (sg l)).toList == [43, 43]) = true ∨ (((toB (sg l)).toList == [43, 43]) = false ∧ ((toB (sg l)).toList == [45, 45]) = true) := by
      rw [hsl]
      rcases h1 with h1 | h1 <;> rw [h1] <;> simp
    have hsz2 : ¬ 9223372036854775807 < (toB (sg l)).size + 1 := by omega
    obtain ⟨g1, hg1⟩ : ∃ g1, gap (aft (sg l) l) = g1 := ⟨_, rfl⟩
    obtain ⟨o1, ho1⟩ : ∃ o1, parseR f .prim g1 = o1 := ⟨_, rfl⟩
    have HPr1 := Lib.hid (HPr.out g1)
    have HG1 := Lib.hid hg1
    rw [hg1] at HO2 HNn2
    rw [ho1] at HPr1 HO2 HNn2
    clear h1 hsl t1 hg1 ho1
    rcases he with he | ⟨he, he'⟩
    all_goals
      go_wp2_with fail
      refine (HGt.out (gap l) (sg l) _ HX1.out.rd HTk.out.2.2 HTk.out.2.1).mono ?_
      rintro e wt ⟨rfl, hrt, hot⟩
      rw [HTk.out.1] at hrt ⊢
      have HX2 := Lib.hid (HX1.out.step hrt hot)
      clear hrt hot
      go_wp2_with fail
      refine (HGp.out _ _ HX2.out.rd).mono ?_
      rintro e w3 ⟨rfl, hr3, ho3⟩
      have HX3 := Lib.hid (HX2.out.step hr3 ho3)
      rw [show gap ((some (aft (sg l) l)).getD (gap l)) = g1 from HG1.out] at HX3
      clear hr3 ho3
      obtain ⟨p3, j3, hp3, hd3, k0, k1, k5, kf, kbx⟩ := HX3.out.rd.cells
      have HPl := Lib.hid (show plc T g1 = (p3 : Int) by unfold plc; omega)
      clear kbx hd3 hp3 k0 k5 kf
      go_wp2_with fail
      refine (HPr1.out _ HX3.out.rd HX3.out.only HNn2.out).mono ?_
      intro e w4 hp
      rcases out_cases o1 with ⟨x, l1, rfl⟩ | hno
      · obtain ⟨v, rfl, hx, hr4, ho4⟩ := hp
        obtain ⟨n, A, k, c, nm, rfl, hnm⟩ := hx.form
        have HB := Lib.hid (HX3.out.box hr4 ho4 hx)
        have ht := Lib.hid (show (x.op == [101] || x.op == [118] && isNm nm) = target x by rw [hnm]; rfl)
        clear hx hr4 ho4 hnm
        obtain ⟨c0, c1, c2, c3, cf⟩ := HB.out.four.cells
        go_wp2_with fail
        generalize w4.alloc (.cells #[.string (toB x.op), .int .i64 (n : Int), .string (toB nm), .slice A k c] 25) = w5 at *
        generalize w4.heap.size = gx at *
        refine (rtarget_any x.op nm (n : Int) A k c _).mono ?_
        rintro e w6 ⟨rfl, hb6⟩
        rw [ht.out]
        have HB6 := Lib.hid (HB.out.below hb6)
        clear c0 c1 c2 c3 cf hb6
        cases htx : target x with
        | true =>
          have HO3 := Lib.hid (HO2.out.symm.trans (show (Out.ok x l1).bind (preK (sg l) g1) = .ok (Go.Proofs.YtiigclkebnmopaaGreatDoor.bx (sg l ++ [118]) [x]) l1 from if_pos htx))
          clear htx
          obtain ⟨c0, c1, c2, c3, cf⟩ := HB6.out.four.cells
          obtain ⟨d0, d1, d2, d3, df⟩ := HB6.out.sx.res.cells
          have hlt6 := HB6.out.sx.lt
          go_wp2_with fail
          have HE := Lib.hid (HB6.out.gives1 (sg l ++ [118]) [] HO3.out)
          obtain ⟨q0, q1, q2, q3, qf⟩ := HE.out.2.cells
          unfold set4 at q0 q1 q2 q3
          rw [show toB [] = (⟨#[]⟩ : ByteArray) from rfl] at q0 q1 q2 q3
          refine bodyPost_ret (v := .agg #[.string (toB (sg l ++ [118])), .int .i64 0, .string ⟨#[]⟩, .slice (some ⟨w6.heap.size, 0, none⟩) 1 1]) (by simp [results, Tryz.results200, go_sem, q0, q1, q2, q3]) rfl ?_
          rw [← HQ.out]
          exact HE.out.1
        | false =>
          have HO3 := Lib.hid (HO2.out.symm.trans (show (Out.ok x l1).bind (preK (sg l) g1) = .bad g1 from if_neg (by rw [htx]; decide)))
          clear htx
          go_wp2_with fail
          refine (rfail_any _ _ _).mono ?_
          rintro e w7 ⟨rfl, rfl⟩
          unfold rpan
          go_wp2_with fail
          rw [← HQ.out, HO3.out]
          exact ⟨rfl, ⟨by rw [HPl.out]; rfl, HB6.out.sx.only⟩⟩
      · obtain ⟨p, c, rfl, ho4, HF⟩ := RPG.fail hno hp
        have HO4 := Lib.hid (HX3.out.only.trans ho4)
        have HFF := Lib.hid HF
        clear hp hno ho4 HF
        unfold rpan
        go_wp2_with fail
        rw [← HQ.out, ← HO2.out]
        exact ⟨rfl, HFF.out _ _ HO4.out⟩
  · have e5 : ((toB (sg l)).toList == [43, 43]) = false := by rw [t1]; simpa using fun e => h1 (.inl e)
    have e6 : ((toB (sg l)).toList == [45, 45]) = false := by rw [t1]; simpa using fun e => h1 (.inr e)
    have HP2 := Lib.hid ((if_neg h1).symm.trans HPre.out)
    clear HPre
    by_cases h2 : sg l = [45] ∨ sg l = [43]
    · have hcat : (⟨#[117]⟩ : ByteArray) ++ toB (sg l) = toB (117 :: sg l) := toB_cat [117] (sg l)
      have he : ((toB (sg l)).toList == [45]) = true ∨ (((toB (sg l)).toList == [45]) = false ∧ ((toB (sg l)).toList == [43]) = true) := by
        rw [hsl]
        rcases h2 with h2 | h2 <;> rw [h2] <;> simp
      have hsz2 : ¬ 9223372036854775807 < 1 + (toB (sg l)).size := by omega
      have HO2 := Lib.hid ((if_pos h2).symm.trans HP2.out)
      have HTk := Lib.hid (sg_take (l := l) (by rcases h2 with h | h <;> rw [h] <;> simp))
      have HNn2 := Lib.hid (show parseR f .pre (aft (sg l) l) ≠ .none from bind_none (by rw [HO2.out]; exact HOn.out))
      clear h1 h2 HP2 hsl t1
      obtain ⟨o1, ho1⟩ : ∃ o1, parseR f .pre (aft (sg l) l) = o1 := ⟨_, rfl⟩
      have HRe1 := Lib.hid (HRe.out (aft (sg l) l))
      rw [ho1] at HRe1 HO2 HNn2
      clear ho1
      rcases he with he | ⟨he, he'⟩
      all_goals
        go_wp2_with fail
        refine (HGt.out (gap l) (sg l) _ HX1.out.rd HTk.out.2.2 HTk.out.2.1).mono ?_
        rintro e wt ⟨rfl, hrt, hot⟩
        rw [HTk.out.1] at hrt ⊢
        have HX2 := Lib.hid (HX1.out.step hrt hot)
        rw [show (some (aft (sg l) l)).getD (gap l) = aft (sg l) l from rfl] at HX2
        clear hrt hot
        go_wp2_with fail
        refine (HRe1.out _ HX2.out.rd HX2.out.only HNn2.out).mono ?_
        intro e w3 hp
        rcases out_cases o1 with ⟨x, l1, rfl⟩ | hno
        · obtain ⟨v, rfl, hx, hr3, ho3⟩ := hp
          obtain ⟨n, A, k, c, nm, rfl, hnm⟩ := hx.form
          have HE := Lib.hid (HX2.out.givesV1 hr3 ho3 hx (117 :: sg l) [] (o := o) HO2.out.symm)
          have HX3 := Lib.hid (HX2.out.step hr3 ho3)
          clear hx hr3 ho3 hnm
          obtain ⟨d0, d1, d2, d3, df⟩ := HX3.out.res.cells
          have hlt3 := HX3.out.lt
          go_wp2_with fail
          obtain ⟨q0, q1, q2, q3, qf⟩ := HE.out.2.cells
          unfold set4 at q0 q1 q2 q3
          rw [show toB [] = (⟨#[]⟩ : ByteArray) from rfl] at q0 q1 q2 q3
          refine bodyPost_ret (v := .agg #[.string (toB (117 :: sg l)), .int .i64 0, .string ⟨#[]⟩, .slice (some ⟨w3.heap.size, 0, none⟩) 1 1]) (by simp [results, Tryz.results200, go_sem, q0, q1, q2, q3]) rfl ?_
          rw [← HQ.out]
          exact HE.out.1
        · obtain ⟨p, c, rfl, ho3, HF⟩ := RPG.fail hno hp
          have HO3 := Lib.hid (HX2.out.only.trans ho3)
          have HFF := Lib.hid HF
          clear hp hno ho3 HF
          unfold rpan
          go_wp2_with fail
          rw [← HQ.out, ← HO2.out]
          exact ⟨rfl, HFF.out _ _ HO3.out⟩
    · have e1 : ((toB (sg l)).toList == [45]) = false := by rw [t1]; simpa using fun e => h2 (.inl e)
      have e2 : ((toB (sg l)).toList == [43]) = false := by rw [t1]; simpa using fun e => h2 (.inr e)
      have HP3 := Lib.hid ((if_neg h2).symm.trans HP2.out)
      clear HP2
      by_cases h3 : sg l = [33] ∨ sg l = [126]
      · have he : ((toB (sg l)).toList == [33]) = true ∨ (((toB (sg l)).toList == [33]) = false ∧ ((toB (sg l)).toList == [126]) = true) := by
          rw [hsl]
          rcases h3 with h3 | h3 <;> rw [h3] <;> simp
        have HO2 := Lib.hid ((if_pos h3).symm.trans HP3.out)
        have HTk := Lib.hid (sg_take (l := l) (by rcases h3 with h | h <;> rw [h] <;> simp))
        have HNn2 := Lib.hid (show parseR f .pre (aft (sg l) l) ≠ .none from bind_none (by rw [HO2.out]; exact HOn.out))
        clear h1 h2 h3 HP3 hsl t1
        obtain ⟨o1, ho1⟩ : ∃ o1, parseR f .pre (aft (sg l) l) = o1 := ⟨_, rfl⟩
        have HRe1 := Lib.hid (HRe.out (aft (sg l) l))
        rw [ho1] at HRe1 HO2 HNn2
        clear ho1
        rcases he with he | ⟨he, he'⟩
        all_goals
          go_wp2_with fail
          refine (HGt.out (gap l) (sg l) _ HX1.out.rd HTk.out.2.2 HTk.out.2.1).mono ?_
          rintro e wt ⟨rfl, hrt, hot⟩
          rw [HTk.out.1] at hrt ⊢
          have HX2 := Lib.hid (HX1.out.step hrt hot)
          rw [show (some (aft (sg l) l)).getD (gap l) = aft (sg l) l from rfl] at HX2
          clear hrt hot
          go_wp2_with fail
          refine (HRe1.out _ HX2.out.rd HX2.out.only HNn2.out).mono ?_
          intro e w3 hp
          rcases out_cases o1 with ⟨x, l1, rfl⟩ | hno
          · obtain ⟨v, rfl, hx, hr3, ho3⟩ := hp
            obtain ⟨n, A, k, c, nm, rfl, hnm⟩ := hx.form
            have HE := Lib.hid (HX2.out.givesV1 hr3 ho3 hx (sg l) [] (o := o) HO2.out.symm)
            have HX3 := Lib.hid (HX2.out.step hr3 ho3)
            clear hx hr3 ho3 hnm
            obtain ⟨d0, d1, d2, d3, df⟩ := HX3.out.res.cells
            have hlt3 := HX3.out.lt
            go_wp2_with fail
            obtain ⟨q0, q1, q2, q3, qf⟩ := HE.out.2.cells
            unfold set4 at q0 q1 q2 q3
            rw [show toB [] = (⟨#[]⟩ : ByteArray) from rfl] at q0 q1 q2 q3
            refine bodyPost_ret (v := .agg #[.string (toB (sg l)), .int .i64 0, .string ⟨#[]⟩, .slice (some ⟨w3.heap.size, 0, none⟩) 1 1]) (by simp [results, Tryz.results200, go_sem, q0, q1, q2, q3]) rfl ?_
            rw [← HQ.out]
            exact HE.out.1
          · obtain ⟨p, c, rfl, ho3, HF⟩ := RPG.fail hno hp
            have HO3 := Lib.hid (HX2.out.only.trans ho3)
            have HFF := Lib.hid HF
            clear hp hno ho3 HF
            unfold rpan
            go_wp2_with fail
            rw [← HQ.out, ← HO2.out]
            exact ⟨rfl, HFF.out _ _ HO3.out⟩
      · have e3 : ((toB (sg l)).toList == [33]) = false := by rw [t1]; simpa using fun e => h3 (.inl e)
        have e4 : ((toB (sg l)).toList == [126]) = false := by rw [t1]; simpa using fun e => h3 (.inr e)
        have HO2 := Lib.hid ((if_neg h3).symm.trans HP3.out)
        have HNn2 := Lib.hid (show parseR f .suf (gap l) ≠ .none by rw [HO2.out]; exact HOn.out)
        clear h1 h2 h3 hsl t1 HP3
        obtain ⟨d0, d1, d2, d3, df⟩ := HX1.out.res.cells
        go_wp2_with fail
        refine (HSu.out (gap l) _ HX1.out.rd HX1.out.only HNn2.out).mono ?_
        intro e w3 hp
        rw [HO2.out] at hp
        rcases out_cases o with ⟨x, l1, rfl⟩ | hno
        · obtain ⟨v, rfl, hx, hr3, ho3⟩ := hp
          obtain ⟨n, A, k, c, nm, rfl, hnm⟩ := hx.form
          have HE := Lib.hid (HX1.out.givesV hr3 ho3 hx rfl)
          have HX3 := Lib.hid (HX1.out.step hr3 ho3)
          clear hx hr3 ho3 hnm d0 d1 d2 d3 df
          obtain ⟨d0, d1, d2, d3, df⟩ := HX3.out.res.cells
          go_wp2_with fail
          obtain ⟨q0, q1, q2, q3, qf⟩ := HE.out.2.cells
          unfold set4 at q0 q1 q2 q3
          refine bodyPost_ret (v := .agg #[.string (toB x.op), .int .i64 (n : Int), .string (toB nm), .slice A k c]) (by simp [results, Tryz.results200, go_sem, q0, q1, q2, q3]) rfl ?_
          rw [← HQ.out]
          exact HE.out.1
        · obtain ⟨p, c, rfl, ho3, HF⟩ := RPG.fail hno hp
          have HO3 := Lib.hid (HX1.out.only.trans ho3)
          have HFF := Lib.hid HF
          clear hp hno ho3 HF
          unfold rpan
          go_wp2_with fail
          rw [← HQ.out]
          have h0 := HFF.out Out.ok _ HO3.out
          rw [bind_ok] at h0
          exact ⟨rfl, h0⟩

end Go.Proofs.YtiigclkebnmopaaGreatDoor
