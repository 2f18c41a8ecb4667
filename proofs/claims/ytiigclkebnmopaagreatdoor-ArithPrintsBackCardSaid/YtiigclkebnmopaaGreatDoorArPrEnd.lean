/- ArithPrintsBack: no text of the form holds a zero byte; what Arith answers to it. -/
import Derived.Test.YtiigclkebnmopaaGreatDoorArPrO
import Derived.Test.YtiigclkebnmopaaGreatDoorArMut
namespace Go.Proofs.YtiigclkebnmopaaGreatDoor
open Go.RowKit Go.Shelf

theorem odd_shaped {op : List UInt8} {n : Int} (hn : n ≠ 0) (h0 : op ≠ [110]) : shaped (.mk op n [] []) = false := by
  unfold shaped
  rw [if_neg h0]
  have : (n == 0) = false := by simpa using hn
  split
  · simp [this]
  · split
    · simp [this]
    · simp [this]
/-- a last part {op, n} -/
theorem rsh_odd (P : Nat → Prop) (op : List UInt8) (n : Int) (hn : n ≠ 0) (h2 : n ≤ 9223372036854775807) : RSh P (.mk op n [] []) := by
  by_cases h0 : op = [110]
  · subst h0
    have hm : (maxN : Int) = 9223372036854775807 := rfl
    exact rshape_n P n [] [] (by omega)
  · intro v w hx
    rw [odd_shaped hn h0]
    exact rshape_bad P op [] n [] hn h0 v w hx
/-- what has the form, a last part of any form -/
theorem rsh_last (P : Nat → Prop) (x : Ex) (hs : shaped x = true) (ha : x.args ≠ []) (y : Ex) (hy : RSh P y) : RSh P (lastBe x y) := by
  obtain ⟨op, n, nm, l⟩ := x
  rcases shaped_cases hs with ⟨rfl, h0', h1, rfl, rfl⟩ | ⟨rfl, rfl, rfl, h⟩ | ⟨rfl, rfl, z, rfl, h, hz⟩ | ⟨hlf, rfl, rfl, h6, har, h⟩
  · exact absurd rfl ha
  · exact absurd rfl ha
  · exact rshape_e P nm y hy
  · have IH : ∀ z ∈ l, RSh P z := fun z hz => rshape_all P _ z (Nat.le_refl _) (shaped_sizes h6 z hz)
    rcases h with ⟨h, z, rfl⟩ | ⟨rfl, a, b, c, rfl⟩ | ⟨h, a, b, rfl⟩
    · have hI : ∀ q ∈ [y], RSh P q := fun q hq => by rw [List.mem_singleton.1 hq]; exact hy
      rcases un_split h with h | h
      · exact rshape_un P op h y hI
      · exact rshape_tw P op h y hI
    · refine rshape_qu P [63] (by simp) a b y fun q hq => ?_
      rcases List.mem_cons.1 hq with rfl | hq
      · exact IH _ (by simp)
      · rcases List.mem_cons.1 hq with rfl | hq
        · exact IH _ (by simp)
        · rw [List.mem_singleton.1 hq]; exact hy
    · have hI : ∀ q ∈ [a, y], RSh P q := fun q hq => by
        rcases List.mem_cons.1 hq with rfl | hq
        · exact IH _ (by simp)
        · rw [List.mem_singleton.1 hq]; exact hy
      rcases two_split op h with h | h | h
      · exact rshape_bin P op h a y hI
      · exact rshape_cmp P op h a y hI
      · exact rshape_asg P op h a y hI

set_option maxRecDepth 100000 in
set_option maxHeartbeats 3200000 in
/-- the reference's PrintArith of what has not the form -/
theorem rprint_bad (P : Nat → Prop) (x : Ex) (hs : shaped x = false) (R1 : RSh P x) (v : Value) (w : World) (hx : ExV P w v x) :
    Calls Tryz.prog 13 #[v] w fun e w' => e = .returned (.tuple #[.string (toB []), .int .i64 5]) ∧ Below w.heap.size w w' := by
  obtain ⟨Q, hQ⟩ : ∃ Q : Ending → World → Prop, (fun e w' => e = .returned (.tuple #[.string (toB []), .int .i64 5]) ∧ Below w.heap.size w w') = Q := ⟨_, rfl⟩
  rw [hQ]
  have HQ := Lib.hid hQ
  clear hQ
  obtain ⟨n5, A5, k5, c5, nm5, rfl, hq⟩ := hx.form
  have ba := (Below.refl w.heap.size w).alloc (Nat.le_refl _) (.cells #[.string (toB x.op), .int .i64 n5, .string (toB nm5), .slice A5 k5 c5] 25)
  have HB := Lib.hid ba
  have F := Lib.hid (Four.new w (.string (toB x.op)) (.int .i64 n5) (.string (toB nm5)) (.slice A5 k5 c5))
  have H1 := Lib.hid (fun W (hb : Below w.heap.size w W) => R1 _ W (hx.below hb))
  rw [hs] at H1
  clear hx hq R1 hs ba
  go_enter Tryz.func13, Tryz.ntmps13
  obtain ⟨c0, c1, c2, c3, cf⟩ := F.out.cells
  go_wp2_with fail
  refine (H1.out _ HB.out).mono ?_
  rintro e w2 ⟨rfl, hb2⟩
  have HB2 := Lib.hid (HB.out.trans (hb2.mono HB.out.size))
  clear hb2 c0 c1 c2 c3 cf
  go_wp2_with fail
  rw [← HQ.out]
  exact ⟨rfl, HB2.out⟩

/-- depth and size of it -/
theorem last_small {x y : Ex} (hy : y.depth = 1 ∧ y.size = 1) (hs : shaped x = true) (ha : x.args ≠ []) : (lastBe x y).depth ≤ x.depth ∧ (lastBe x y).size ≤ x.size := by
  obtain ⟨op, n, nm, l⟩ := x
  have hd : ∀ q : Ex, 1 ≤ q.depth := fun q => by cases q; simp [Ex.depth]
  rcases shaped_cases hs with ⟨rfl, h0', h1, rfl, rfl⟩ | ⟨rfl, rfl, rfl, h⟩ | ⟨rfl, rfl, z, rfl, h, hz⟩ | ⟨hlf, rfl, rfl, h6, har, h⟩
  · exact absurd rfl ha
  · exact absurd rfl ha
  · have := hd z; have := size_pos z
    simp [lastBe, Ex.depth, Ex.depths, Ex.size, Ex.sizes, hy.1, hy.2]; omega
  · rcases h with ⟨h, z, rfl⟩ | ⟨rfl, a, b, c, rfl⟩ | ⟨h, a, b, rfl⟩
    · have := hd z; have := size_pos z
      simp [lastBe, Ex.depth, Ex.depths, Ex.size, Ex.sizes, hy.1, hy.2]; omega
    · have := hd c; have := size_pos c
      simp [lastBe, Ex.depth, Ex.depths, Ex.size, Ex.sizes, hy.1, hy.2]; omega
    · have := hd b; have := size_pos b
      simp [lastBe, Ex.depth, Ex.depths, Ex.size, Ex.sizes, hy.1, hy.2]; omega

end Go.Proofs.YtiigclkebnmopaaGreatDoor

namespace Go.Proofs.YtiigclkebnmopaaGreatDoor
open Go.RowKit Go.Shelf

theorem gap_last : ∀ l : List UInt8, gap l = [] → l = [] ∨ ∃ p c, l = p ++ [c] ∧ blB c = true
  | [], _ => .inl rfl
  | [a], h => by
    unfold gap at h
    split at h
    · rename_i ha; exact .inr ⟨[], a, rfl, ha⟩
    · cases h
  | a :: b :: r, h => by
    unfold gap at h
    split at h
    · rename_i ha
      rcases gap_last (b :: r) h with h | ⟨p, c, h, hc⟩
      · cases h
      · exact .inr ⟨a :: p, c, by rw [h]; rfl, hc⟩
    · split at h
      · rename_i hab
        rcases gap_last r h with h | ⟨p, c, h, hc⟩
        · subst h
          exact .inr ⟨[a], b, rfl, by rw [hab.2]; decide⟩
        · exact .inr ⟨a :: b :: p, c, by rw [h]; rfl, hc⟩
      · cases h
def LastOk (t : List UInt8) : Prop := ∃ p c, t = p ++ [c] ∧ blB c = false
theorem LastOk.app {t : List UInt8} (h : LastOk t) (s : List UInt8) : LastOk (s ++ t) := by
  obtain ⟨p, c, rfl, hc⟩ := h
  exact ⟨s ++ p, c, by simp, hc⟩
theorem LastOk.cons {t : List UInt8} (h : LastOk t) (s : UInt8) : LastOk (s :: t) := h.app [s]
theorem LastOk.all {t : List UInt8} (h0 : t ≠ []) (h : ∀ c ∈ t, blB c = false) : LastOk t := ⟨t.dropLast, t.getLast h0, (List.dropLast_concat_getLast h0).symm, h _ (List.getLast_mem h0)⟩
theorem LastOk.no {t pre l : List UInt8} (h : LastOk t) (e : t = pre ++ l) (hg : gap l = []) : l = [] := by
  obtain ⟨p, c, rfl, hc⟩ := h
  rcases gap_last l hg with rfl | ⟨q, d, rfl, hd⟩
  · rfl
  · exfalso
    rw [← List.append_assoc] at e
    have := List.append_inj_right' e rfl
    simp at this
    rw [this, hd] at hc
    cases hc
theorem LastOk.shi {x : Ex} (h : LastOk (shw x)) : LastOk (shi x) := by
  unfold Go.Proofs.YtiigclkebnmopaaGreatDoor.shi inn
  split
  · exact h
  · exact ⟨40 :: shw x, 41, rfl, by decide⟩
theorem isW_bl {c : UInt8} (h : isW c = true) : blB c = false := by
  cases hb : blB c with
  | false => rfl
  | true =>
    exfalso
    unfold blB at hb
    simp at hb
    rcases hb with (rfl | rfl) | rfl <;> revert h <;> decide
theorem isD_bl {c : UInt8} (h : isD c = true) : blB c = false := by
  cases hb : blB c with
  | false => rfl
  | true =>
    exfalso
    unfold blB at hb
    simp at hb
    rcases hb with (rfl | rfl) | rfl <;> revert h <;> decide
theorem last_shw : ∀ (N : Nat) (x : Ex), x.size ≤ N → shaped x = true → LastOk (shw x)
  | 0, x, h, _ => by have := size_pos x; omega
  | N + 1, .mk op n nm l, hN, hs => by
    have hsz : (Ex.mk op n nm l).size = Ex.sizes l + 1 := by simp [Ex.size]
    have IH : shapeds l = true → ∀ y ∈ l, LastOk (shi y) := fun h y hy => by
      have h2 := size_in hy
      exact (last_shw N y (by omega) (shaped_sizes h y hy)).shi
    rcases shaped_cases hs with ⟨rfl, h0', h1, rfl, rfl⟩ | ⟨rfl, rfl, rfl, h⟩ | ⟨rfl, rfl, y, rfl, h, hy⟩ | ⟨hlf, rfl, rfl, h6, har, h⟩
    · show LastOk (Lib.itoa n)
      unfold Lib.itoa
      rw [if_neg (by omega)]
      exact last_dec _
    · show LastOk (varS nm)
      unfold varS
      split
      · rename_i hn
        obtain ⟨c, r, rfl, _, _, hw⟩ := nm_head hn
        exact LastOk.all (by simp) fun d hd => isW_bl (hw d hd)
      · split
        · exact ⟨36 :: 123 :: nm, 125, rfl, by decide⟩
        · rename_i hn hl
          unfold varOk at h
          simp only [Bool.or_eq_true, beq_iff_eq, Bool.and_eq_true] at h
          rcases h with ((h | rfl) | rfl) | ⟨h, ha⟩
          · exact absurd h hn
          · exact ⟨[36], 35, rfl, by decide⟩
          · exact ⟨[36], 63, rfl, by decide⟩
          · exact LastOk.all (by simp) fun d hd => by
              rcases List.mem_cons.1 hd with rfl | hd
              · decide
              · exact isD_bl (List.all_eq_true.1 ha d hd)
    · show LastOk (nm ++ 91 :: (shw y ++ [93]))
      exact ⟨nm ++ 91 :: shw y, 93, by simp, by decide⟩
    · rcases h with ⟨h, y, rfl⟩ | ⟨rfl, a, b, c, rfl⟩ | ⟨h, a, b, rfl⟩
      · have e : shw (.mk op 0 [] [y]) = aheadO op ++ (shi y ++ behindO op) := shw_one op hlf
        rw [e]
        refine LastOk.app ?_ _
        have hI := IH h6 y (by simp)
        unfold behindO
        split
        · exact ⟨shi y ++ [43], 43, by simp, by decide⟩
        · split
          · exact ⟨shi y ++ [45], 45, by simp, by decide⟩
          · rw [List.append_nil]; exact hI
      · have e : shw (.mk [63] 0 [] [a, b, c]) = shi a ++ 32 :: 63 :: 32 :: (shi b ++ 32 :: 58 :: 32 :: shi c) := shw_three
        rw [e]
        exact (((((((IH h6 c (by simp)).cons 32).cons 58).cons 32).app (shi b)).cons 32).cons 63 |>.cons 32).app (shi a)
      · have e : shw (.mk op 0 [] [a, b]) = shi a ++ 32 :: (op ++ 32 :: shi b) := shw_two op hlf
        rw [e]
        exact ((((IH h6 b (by simp)).cons 32).app op).cons 32).app (shi a)
where
  last_dec : ∀ n : Nat, LastOk (Lib.decDigits n) := fun n => by
    refine LastOk.all ?_ fun c hc => isD_bl ?_
    · intro h
      have h2 := Lib.decDigits_length n
      rw [h] at h2
      have := Lib.nDigits_pos n
      simp at h2
      omega
    · exact dec_digit (n + 1) n (by omega) c hc
/-- of the form: the text, no error -/
theorem pans_shaped {x : Ex} (hs : shaped x = true) (hpre : ∀ y l, allP (shw x) = .ok y l → ∃ pre, shw x = pre ++ l) : pans (shw x) false x = (shw x, 0) := by
  obtain ⟨l, hl, hg⟩ := read_back x hs (40 * (shw x).length + 40) (parse_all _)
  have hl2 : allP (shw x) = .ok x l := hl
  obtain ⟨pre, hp⟩ := hpre x l hl2
  rw [pans_ok hl2, if_pos ⟨(last_shw x.size x (Nat.le_refl _) hs).no hp hg, eqX_refl x⟩]
/-- not of the form: the error -/
theorem pans_not {x : Ex} (hs : shaped x = false) (t : List UInt8) (bd : Bool) : pans t bd x = ([], 5) := by
  cases bd with
  | true => exact pans_bad
  | false =>
    cases ho : allP t with
    | ok y l =>
      rw [pans_ok ho, if_neg]
      rintro ⟨_, he⟩
      have := eqX_eq x y he
      subst this
      have h2 := parse_shaped (40 * t.length + 40) .expr t trivial x l ho
      rw [hs] at h2
      cases h2
    | _ => exact pans_no fun y l h => by rw [ho] at h; cases h

end Go.Proofs.YtiigclkebnmopaaGreatDoor

namespace Go.Proofs.YtiigclkebnmopaaGreatDoor
open Go.RowKit Go.Shelf

/-- the last element overwritten -/
theorem exl_last {P : Nat → Prop} {w w' : World} {g : Nat} (y : Ex) (v0 v1 v2 v3 : Value) (hk : ∀ k, P k → k < w.heap.size → w'.heap[k]? = w.heap[k]?) (hs : w.heap.size ≤ w'.heap.size) (hy : ExV P w' (.agg #[v0, v1, v2, v3]) y) : ∀ (l : List Ex) (off : Nat), l ≠ [] → ExL P w g off l →
    (∀ j, j + 4 < 4 * l.length + off + 4 → j < off + 4 * (l.length - 1) → w'.cell? ⟨g, j, none⟩ = w.cell? ⟨g, j, none⟩) →
    w'.cell? ⟨g, off + 4 * (l.length - 1), none⟩ = some v0 → w'.cell? ⟨g, off + 4 * (l.length - 1) + 1, none⟩ = some v1 → w'.cell? ⟨g, off + 4 * (l.length - 1) + 2, none⟩ = some v2 → w'.cell? ⟨g, off + 4 * (l.length - 1) + 3, none⟩ = some v3 →
    ExL P w' g off (l.dropLast ++ [y])
  | [], _, h, _, _, _, _, _, _ => absurd rfl h
  | [x], off, _, _, _, h0, h1, h2, h3 => by
    unfold ExL
    exact ⟨⟨v0, v1, v2, v3, by simpa using h0, by simpa using h1, by simpa using h2, by simpa using h3, hy⟩, by unfold ExL; trivial⟩
  | x :: z :: r, off, _, h, hc, h0, h1, h2, h3 => by
    unfold ExL at h
    obtain ⟨⟨u0, u1, u2, u3, a0, a1, a2, a3, hx⟩, hr⟩ := h
    have hlen : (x :: z :: r).length - 1 = (z :: r).length - 1 + 1 := by simp
    have e4 : off + 4 * ((x :: z :: r).length - 1) = off + 4 + 4 * ((z :: r).length - 1) := by rw [hlen]; omega
    rw [e4] at h0 h1 h2 h3
    have hc' : ∀ j, j < off + 4 → w'.cell? ⟨g, j, none⟩ = w.cell? ⟨g, j, none⟩ := fun j hj => hc j (by simp; omega) (by rw [e4]; omega)
    show ExL P w' g off (x :: ((z :: r).dropLast ++ [y]))
    unfold ExL
    refine ⟨⟨u0, u1, u2, u3, (hc' _ (by omega)).trans a0, (hc' _ (by omega)).trans a1, (hc' _ (by omega)).trans a2, (hc' _ (by omega)).trans a3, ExV.keep hs (fun k hP hl => ⟨hk k hP hl, hP⟩) x hx⟩, ?_⟩
    exact exl_last y v0 v1 v2 v3 hk hs hy (z :: r) (off + 4) (by simp) hr (fun j hj1 hj2 => hc j (by simp at hj1 ⊢; omega) (by rw [e4]; omega)) h0 h1 h2 h3

end Go.Proofs.YtiigclkebnmopaaGreatDoor

namespace Go.Proofs.YtiigclkebnmopaaGreatDoor
open Go.RowKit Go.Shelf

theorem last_len {x y : Ex} (hs : shaped x = true) (ha : x.args ≠ []) (h1 : (shi y).length ≤ 24) (h2 : (shw y).length ≤ 24) : (shw (lastBe x y)).length ≤ (shw x).length + 24 := by
  obtain ⟨op, n, nm, l⟩ := x
  rcases shaped_cases hs with ⟨rfl, h0', h1, rfl, rfl⟩ | ⟨rfl, rfl, rfl, h⟩ | ⟨rfl, rfl, z, rfl, h, hz⟩ | ⟨hlf, rfl, rfl, h6, har, h⟩
  · exact absurd rfl ha
  · exact absurd rfl ha
  · show (nm ++ 91 :: (shw y ++ [93])).length ≤ (nm ++ 91 :: (shw z ++ [93])).length + 24
    simp
    omega
  · rcases h with ⟨h, z, rfl⟩ | ⟨rfl, a, b, c, rfl⟩ | ⟨h, a, b, rfl⟩
    · have e1 : shw (.mk op 0 [] [z]) = aheadO op ++ (shi z ++ behindO op) := shw_one op hlf
      have e2 : shw (lastBe (.mk op 0 [] [z]) y) = aheadO op ++ (shi y ++ behindO op) := shw_one op hlf
      rw [e1, e2]
      simp
      omega
    · have e1 : shw (.mk [63] 0 [] [a, b, c]) = shi a ++ 32 :: 63 :: 32 :: (shi b ++ 32 :: 58 :: 32 :: shi c) := shw_three
      have e2 : shw (lastBe (.mk [63] 0 [] [a, b, c]) y) = shi a ++ 32 :: 63 :: 32 :: (shi b ++ 32 :: 58 :: 32 :: shi y) := shw_three
      rw [e1, e2]
      simp
      omega
    · have e1 : shw (.mk op 0 [] [a, b]) = shi a ++ 32 :: (op ++ 32 :: shi b) := shw_two op hlf
      have e2 : shw (lastBe (.mk op 0 [] [a, b]) y) = shi a ++ 32 :: (op ++ 32 :: shi y) := shw_two op hlf
      rw [e1, e2]
      simp
      omega
/-- what is known of the tree that is printed -/
structure Inv (x : Ex) : Prop where
  rsh : ∀ P, RSh P x
  depth : x.depth ≤ 50
  size : x.size ≤ 1048576
  text : shaped x = true → (shi x).length ≤ 32768
  pe : ∃ t bd, t ≠ [] ∧ t.length ≤ 32768 ∧ (∀ w0 b, W0 w0 b b → PE w0 b b x t bd) ∧ (shaped x = true → t = shw x ∧ bd = false)
theorem last_ne {t : List UInt8} (h : LastOk t) : t ≠ [] := by
  obtain ⟨p, c, rfl, _⟩ := h
  simp
theorem inv_shaped {x : Ex} (hs : shaped x = true) (hl : (shi x).length ≤ 32768) (hd : x.depth ≤ 50) : Inv x :=
  ⟨fun P => rshape_all P x.size x (Nat.le_refl _) hs, hd, by have := shaped_size hs; have := shw_le x; omega, fun _ => hl, shw x, false, last_ne (last_shw x.size x (Nat.le_refl _) hs), by have := shw_le x; omega, fun w0 b h0 => (pb_all w0 b b h0 x.size x (Nat.le_refl _) hs).1, fun _ => ⟨rfl, rfl⟩⟩
/-- the dice's tree with another last part -/
theorem inv_last {x : Ex} (hs : shaped x = true) (hl : (shi x).length ≤ 32000) (hd : x.depth ≤ 50) (ha : x.args ≠ []) (op : List UInt8) (n : Int) (hn : n ≠ 0) (h1 : -9223372036854775808 ≤ n) (h2 : n ≤ 9223372036854775807) : Inv (lastBe x (.mk op n [] [])) := by
  have hsm := last_small (x := x) (y := .mk op n [] []) ⟨depth0 _ _ _, by simp [Ex.size, Ex.sizes]⟩ hs ha
  have hsz := shaped_size hs
  have hwl := shw_le x
  cases hsh : shaped (lastBe x (.mk op n [] [])) with
  | true =>
    have hy : op = [110] := by
      rcases Decidable.em (op = [110]) with h | h
      · exact h
      · exfalso
        have h3 := odd_shaped (op := op) hn h
        have h4 : shaped (.mk op n [] []) = true := last_part hsh
        rw [h3] at h4
        cases h4
    subst hy
    have hit : (Lib.itoa n).length ≤ 20 := pb_odd.itoa_20 n h1 h2
    have hle := last_len (y := .mk [110] n [] []) hs ha (by show (Lib.itoa n).length ≤ 24; omega) (by show (Lib.itoa n).length ≤ 24; omega)
    have hli := shi_le (lastBe x (.mk [110] n [] []))
    exact inv_shaped hsh (by omega) (by omega)
  | false =>
    refine ⟨fun P => rsh_last P x hs ha _ (rsh_odd P op n hn h2), by omega, by omega, (by rw [hsh]; exact fun h => by cases h), ?_⟩
    obtain ⟨t, bd, h3, h4, h5⟩ := pb_last x hs ha op n h1 h2
    exact ⟨t, bd, h4, by omega, fun w0 b h0 => h3 w0 b b h0, by rw [hsh]; exact fun h => by cases h⟩
where
  last_part {x y : Ex} (h : shaped (lastBe x y) = true) : shaped y = true := by
    obtain ⟨op, n, nm, l⟩ := x
    rcases shaped_cases (show shaped (.mk op n nm (l.dropLast ++ [y])) = true from h) with ⟨_, _, _, _, e⟩ | ⟨_, _, e, _⟩ | ⟨_, _, z, e, _, hz⟩ | ⟨_, _, _, h6, _, _⟩
    · simp at e
    · simp at e
    · have : y ∈ [z] := by rw [← e]; simp
      rw [List.mem_singleton.1 this]; exact hz
    · exact shaped_sizes h6 y (by simp)

end Go.Proofs.YtiigclkebnmopaaGreatDoor

namespace Go.Proofs.YtiigclkebnmopaaGreatDoor
open Go.RowKit Go.Shelf

theorem isW_ne {c : UInt8} (h : isW c = true) : c ≠ 0 := by
  rintro rfl
  revert h
  decide
theorem isD_ne {c : UInt8} (h : isD c = true) : c ≠ 0 := by
  rintro rfl
  revert h
  decide
theorem nz_shi {x : Ex} (h : (0 : UInt8) ∉ shw x) : (0 : UInt8) ∉ shi x := by
  unfold shi inn
  split
  · exact h
  · simp [h]
theorem nz_signs : (∀ op ∈ unO, (0 : UInt8) ∉ aheadO op ∧ (0 : UInt8) ∉ behindO op) ∧ ∀ op ∈ binO ++ [[44]] ++ assigns, (0 : UInt8) ∉ op := by decide
theorem nz_shw : ∀ (N : Nat) (x : Ex), x.size ≤ N → shaped x = true → (0 : UInt8) ∉ shw x
  | 0, x, h, _ => by have := size_pos x; omega
  | N + 1, .mk op n nm l, hN, hs => by
    have hsz : (Ex.mk op n nm l).size = Ex.sizes l + 1 := by simp [Ex.size]
    have IH : shapeds l = true → ∀ y ∈ l, (0 : UInt8) ∉ shi y := fun h y hy => by
      have h2 := size_in hy
      exact nz_shi (nz_shw N y (by omega) (shaped_sizes h y hy))
    rcases shaped_cases hs with ⟨rfl, h0', h1, rfl, rfl⟩ | ⟨rfl, rfl, rfl, h⟩ | ⟨rfl, rfl, y, rfl, h, hy⟩ | ⟨hlf, rfl, rfl, h6, har, h⟩
    · show (0 : UInt8) ∉ Lib.itoa n
      unfold Lib.itoa
      rw [if_neg (by omega)]
      exact fun hc => isD_ne (dec_digit (n.natAbs + 1) _ (by omega) 0 hc) rfl
    · have hnm : (0 : UInt8) ∉ nm := by
        unfold varOk at h
        simp only [Bool.or_eq_true, beq_iff_eq, Bool.and_eq_true] at h
        rcases h with ((h | rfl) | rfl) | ⟨h, ha⟩
        · obtain ⟨c, r, rfl, _, _, hw⟩ := nm_head h
          exact fun hc => isW_ne (hw 0 hc) rfl
        · decide
        · decide
        · exact fun hc => isD_ne (List.all_eq_true.1 ha 0 hc) rfl
      show (0 : UInt8) ∉ varS nm
      unfold varS
      split
      · exact hnm
      · split <;> simp [hnm]
    · have hnm : (0 : UInt8) ∉ nm := by
        obtain ⟨c, r, rfl, _, _, hw⟩ := nm_head h
        exact fun hc => isW_ne (hw 0 hc) rfl
      have hy2 := nz_shw N y (by have h2 : y.size ≤ Ex.sizes [y] := size_in (by simp); omega) hy
      show (0 : UInt8) ∉ nm ++ 91 :: (shw y ++ [93])
      simp [hnm, hy2]
    · rcases h with ⟨h, y, rfl⟩ | ⟨rfl, a, b, c, rfl⟩ | ⟨h, a, b, rfl⟩
      · have e : shw (.mk op 0 [] [y]) = aheadO op ++ (shi y ++ behindO op) := shw_one op hlf
        have := nz_signs.1 op h
        rw [e]
        simp [this.1, this.2, IH h6 y (by simp)]
      · have e : shw (.mk [63] 0 [] [a, b, c]) = shi a ++ 32 :: 63 :: 32 :: (shi b ++ 32 :: 58 :: 32 :: shi c) := shw_three
        rw [e]
        simp [IH h6 a (by simp), IH h6 b (by simp), IH h6 c (by simp)]
      · have e : shw (.mk op 0 [] [a, b]) = shi a ++ 32 :: (op ++ 32 :: shi b) := shw_two op hlf
        have := nz_signs.2 op (two_all h)
        rw [e]
        simp [this, IH h6 a (by simp), IH h6 b (by simp)]
theorem ib_pos : ∀ (l : List UInt8) (c : UInt8), 0 ≤ Lib.indexByte l c → c ∈ l
  | [], c, h => absurd h (by unfold Lib.indexByte; decide)
  | a :: l, c, h => by
    unfold Lib.indexByte at h
    by_cases ha : (a == c) = true
    · have : a = c := by simpa using ha
      simp [this]
    · rw [if_neg ha] at h
      have h2 : 0 ≤ Lib.indexByte l c := by
        split at h
        · exact absurd h (by decide)
        · rename_i h1
          have : Lib.indexByte l c ≠ -1 := by simpa using h1
          omega
      exact List.mem_cons_of_mem _ (ib_pos l c h2)
/-- what Arith answers to the text of a tree of the form -/
theorem ans_shaped {x : Ex} (hs : shaped x = true) (hd : x.depth ≤ 50) (hl : (shw x).length ≤ 16384) : ans (shw x) = (x, 0, 0) := by
  have hc : chkO (shw x) = 0 := by
    unfold chkO
    rw [if_neg (by omega), if_neg]
    intro h
    exact nz_shw x.size x (Nat.le_refl _) hs (ib_pos _ _ h)
  obtain ⟨l, h1, h2⟩ := read_back x hs (40 * (shw x).length + 40) (parse_all _)
  have ho : allO (shw x) = .ok x [] := by
    unfold allO
    rw [h1]
    show endK x l = _
    unfold endK
    rw [if_pos h2]
  rw [ans_O hc, ho]
  exact if_pos hd
end Go.Proofs.YtiigclkebnmopaaGreatDoor
