/- Arithmetic expressions: the reference's PrintArith of what the law's dice build. -/
import Derived.Test.YtiigclkebnmopaaGreatDoorArRPs
import Derived.Test.YtiigclkebnmopaaGreatDoorArRSall
namespace Go.Proofs.YtiigclkebnmopaaGreatDoor
open Go.RowKit Go.Shelf

-- the form, of what has a form
mutual
/-- names are short -/
def namesIn : Ex → Bool
  | .mk _ _ nm args => decide (nm.length ≤ 16384) && namesIns args
def namesIns : List Ex → Bool
  | [] => true
  | x :: r => namesIn x && namesIns r
end
theorem two_split : ∀ op : List UInt8, arO op = 2 → op ∈ ([[42], [47], [37], [43], [45], [60, 60], [62, 62], [60], [62], [38], [94], [124], [38, 38], [124, 124], [44]] : List (List UInt8)) ∨ op ∈ ([[60, 61], [62, 61], [61, 61], [33, 61]] : List (List UInt8)) ∨ op ∈ ([[61], [42, 61], [47, 61], [37, 61], [43, 61], [45, 61], [60, 60, 61], [62, 62, 61], [38, 61], [94, 61], [124, 61]] : List (List UInt8)) := by
  intro op h
  have h1 : op ∈ binO ++ [[44]] ++ assigns := by
    unfold arO at h
    split at h
    · cases h
    · split at h
      · cases h
      · split at h
        · rename_i h2
          simp only [List.mem_append, List.mem_singleton]
          rcases h2 with h2 | h2 | h2 <;> simp [h2]
        · cases h
  have : ∀ op ∈ binO ++ [[44]] ++ assigns, op ∈ ([[42], [47], [37], [43], [45], [60, 60], [62, 62], [60], [62], [38], [94], [124], [38, 38], [124, 124], [44]] : List (List UInt8)) ∨ op ∈ ([[60, 61], [62, 61], [61, 61], [33, 61]] : List (List UInt8)) ∨ op ∈ ([[61], [42, 61], [47, 61], [37, 61], [43, 61], [45, 61], [60, 60, 61], [62, 62, 61], [38, 61], [94, 61], [124, 61]] : List (List UInt8)) := by decide
  exact this op h1
theorem two_all {op : List UInt8} (h : arO op = 2) : op ∈ binO ++ [[44]] ++ assigns := by
  unfold arO at h
  split at h
  · cases h
  · split at h
    · cases h
    · split at h
      · rename_i h2
        simp only [List.mem_append, List.mem_singleton]
        rcases h2 with h2 | h2 | h2 <;> simp [h2]
      · cases h
/-- the node's own part of the form -/
theorem shaped_cases {op nm : List UInt8} {n : Int} {l : List Ex} (h : shaped (.mk op n nm l) = true) :
    (op = [110] ∧ 0 ≤ n ∧ n ≤ (maxN : Int) ∧ nm = [] ∧ l = []) ∨ (op = [118] ∧ n = 0 ∧ l = [] ∧ varOk nm = true) ∨ (op = [101] ∧ n = 0 ∧ ∃ y, l = [y] ∧ isNm nm = true ∧ shaped y = true) ∨
    (leafO op = false ∧ n = 0 ∧ nm = [] ∧ shapeds l = true ∧ arO op = l.length ∧ (op ∈ unO ∧ (∃ y, l = [y]) ∨ op = [63] ∧ (∃ a b c, l = [a, b, c]) ∨ arO op = 2 ∧ (∃ a b, l = [a, b]))) := by
  unfold shaped at h
  by_cases h1 : op = [110]
  · rw [if_pos h1] at h
    simp at h
    exact .inl ⟨h1, h.1.1.1, h.1.1.2, h.1.2, h.2⟩
  · rw [if_neg h1] at h
    by_cases h2 : op = [118]
    · rw [if_pos h2] at h
      simp at h
      exact .inr (.inl ⟨h2, h.1.1, h.1.2, h.2⟩)
    · rw [if_neg h2] at h
      by_cases h3 : op = [101]
      · rw [if_pos h3] at h
        simp at h
        obtain ⟨⟨⟨h4, h5⟩, h6⟩, h7⟩ := h
        match l, h5 with
        | [y], _ => exact .inr (.inr (.inl ⟨h3, h4, y, rfl, h6, by simpa [shapeds] using h7⟩))
      · rw [if_neg h3] at h
        have hl := leaf_false h1 h2 h3
        simp only [Bool.and_eq_true, bne_iff_ne, ne_eq, beq_iff_eq] at h
        obtain ⟨⟨⟨⟨⟨ha, hb⟩, hn⟩, hm⟩, h6⟩, h7⟩ := h
        refine .inr (.inr (.inr ⟨hl, hn, hm, h6, hb.symm, ?_⟩))
        rcases ar_cases op with h0 | h0 | h0 | h0
        · exact absurd h0 ha
        · rw [h0] at hb
          match l, hb with
          | [a], _ => exact .inl ⟨ar_one h0, a, rfl⟩
        · rw [h0] at hb
          match l, hb with
          | [a, b], _ => exact .inr (.inr ⟨h0, a, b, rfl⟩)
        · rw [h0] at hb
          match l, hb with
          | [a, b, c], _ => exact .inr (.inl ⟨ar_three h0, a, b, c, rfl⟩)
theorem varOk_len {nm : List UInt8} (h : varOk nm = true) : nm.length ≤ 64 := by
  unfold varOk at h
  simp only [Bool.or_eq_true, beq_iff_eq, Bool.and_eq_true] at h
  rcases h with ((h | rfl) | rfl) | ⟨h, _⟩
  · obtain ⟨c, r, _, _, hl, _⟩ := nm_head h
    exact hl
  · decide
  · decide
  · unfold posOk at h
    simp only [Bool.or_eq_true, beq_iff_eq, Bool.and_eq_true, decide_eq_true_eq] at h
    rcases h with rfl | h
    · decide
    · omega
theorem un_split {op : List UInt8} (h : op ∈ unO) : op ∈ ([[117, 45], [117, 43], [33], [126]] : List (List UInt8)) ∨ op ∈ ([[43, 43, 118], [45, 45, 118], [118, 43, 43], [118, 45, 45]] : List (List UInt8)) := by
  unfold unO setU at h
  simpa [or_assoc] using h
/-- the reference tells the form of what has it -/
theorem rshape_all (P : Nat → Prop) : ∀ (N : Nat) (x : Ex), x.size ≤ N → shaped x = true → RSh P x
  | 0, x, h, _ => by have := size_pos x; omega
  | N + 1, .mk op n nm l, hN, hs => by
    have hsz : (Ex.mk op n nm l).size = Ex.sizes l + 1 := by simp [Ex.size]
    have IH : shapeds l = true → ∀ y ∈ l, RSh P y := fun h y hy => by
      have h2 := size_in hy
      exact rshape_all P N y (by omega) (shaped_sizes h y hy)
    rcases shaped_cases hs with ⟨rfl, h0, h1, rfl, rfl⟩ | ⟨rfl, rfl, rfl, h⟩ | ⟨rfl, rfl, y, rfl, h, hy⟩ | ⟨_, rfl, rfl, h6, _, h⟩
    · exact rshape_n P n [] [] h1
    · exact rshape_v P nm (by have := varOk_len h; omega)
    · exact rshape_e P nm y (IH (by simp [shapeds, hy]) y (by simp))
    · rcases h with ⟨h, y, rfl⟩ | ⟨rfl, a, b, c, rfl⟩ | ⟨h, a, b, rfl⟩
      · rcases un_split h with h | h
        · exact rshape_un P op h y (IH h6)
        · exact rshape_tw P op h y (IH h6)
      · exact rshape_qu P [63] (by simp) a b c (IH h6)
      · rcases two_split op h with h | h | h
        · exact rshape_bin P op h a b (IH h6)
        · exact rshape_cmp P op h a b (IH h6)
        · exact rshape_asg P op h a b (IH h6)

theorem len_in {x : Ex} {l : List UInt8} (h : ∃ a b, l = a ++ (shi x ++ b)) (hl : l.length ≤ 1000000) : (shi x).length ≤ 1000000 := by
  obtain ⟨a, b, rfl⟩ := h
  simp at hl
  omega
/-- what the reference prints of what has the form -/
theorem rshow_all (P : Nat → Prop) : ∀ (N : Nat) (x : Ex), x.size ≤ N → shaped x = true → (shi x).length ≤ 1000000 → RS P x false ∧ RS P x true
  | 0, x, h, _, _ => by have := size_pos x; omega
  | N + 1, .mk op n nm l, hN, hs, hl => by
    have hsz : (Ex.mk op n nm l).size = Ex.sizes l + 1 := by simp [Ex.size]
    have hw := shw_le (.mk op n nm l)
    have IH : shapeds l = true → ∀ y ∈ l, (shi y).length ≤ 1000000 → RS P y false ∧ RS P y true := fun h y hy hly => by
      have h2 := size_in hy
      exact rshow_all P N y (by omega) (shaped_sizes h y hy) hly
    rcases shaped_cases hs with ⟨rfl, h0, h1, rfl, rfl⟩ | ⟨rfl, rfl, rfl, h⟩ | ⟨rfl, rfl, y, rfl, h, hy⟩ | ⟨hlf, rfl, rfl, h6, har, h⟩
    · have hm : (maxN : Int) = 9223372036854775807 := rfl
      exact ⟨rshow_n P n [] (by omega) (by omega) false, rshow_n P n [] (by omega) (by omega) true⟩
    · have := varOk_len h
      exact ⟨rshow_v P 0 nm (by omega) false, rshow_v P 0 nm (by omega) true⟩
    · have hn : nm.length ≤ 64 := by
        obtain ⟨c, r, _, _, hl, _⟩ := nm_head h
        exact hl
      have e : shw (.mk [101] 0 nm [y]) = nm ++ 91 :: (shw y ++ [93]) := rfl
      have hyl : (shw y).length + 2 ≤ (shw (.mk [101] 0 nm [y])).length := by rw [e]; simp <;> omega
      have hmi := shi_le y
      have IHy := IH (by simp [shapeds, hy]) y (by simp) (by omega)
      exact ⟨rshow_e P 0 nm y (by omega) (by omega) IHy.1 false, rshow_e P 0 nm y (by omega) (by omega) IHy.1 true⟩
    · have key : RS P (.mk op 0 [] l) false → RS P (.mk op 0 [] l) false ∧ RS P (.mk op 0 [] l) true := fun h => ⟨h, rshow_inner P _ hlf hl h⟩
      apply key
      rcases h with ⟨h, y, rfl⟩ | ⟨rfl, a, b, c, rfl⟩ | ⟨h, a, b, rfl⟩
      · have e : shw (.mk op 0 [] [y]) = aheadO op ++ (shi y ++ behindO op) := shw_one op hlf
        have hyl : (shi y).length ≤ 1000000 := by rw [e] at hw; simp at hw; omega
        have hI := (IH h6 y (by simp) hyl).2
        unfold unO setU at h
        simp at h
        rcases h with rfl | rfl | rfl | rfl | rfl | rfl | rfl | rfl
        · exact rshow_u0 P 0 [] y hyl hI
        · exact rshow_u1 P 0 [] y hyl hI
        · exact rshow_u2 P 0 [] y hyl hI
        · exact rshow_u3 P 0 [] y hyl hI
        · exact rshow_u4 P 0 [] y hyl hI
        · exact rshow_u5 P 0 [] y hyl hI
        · exact rshow_u6 P 0 [] y hyl hI
        · exact rshow_u7 P 0 [] y hyl hI
      · have e : shw (.mk [63] 0 [] [a, b, c]) = shi a ++ 32 :: 63 :: 32 :: (shi b ++ 32 :: 58 :: 32 :: shi c) := shw_three
        rw [e] at hw
        simp at hw
        have h1 : (shi a).length ≤ 1000000 := by omega
        have h2 : (shi b).length ≤ 1000000 := by omega
        have h3 : (shi c).length ≤ 1000000 := by omega
        exact rshow_three P 0 [] a b c h1 h2 h3 (IH h6 a (by simp) h1).2 (IH h6 b (by simp) h2).2 (IH h6 c (by simp) h3).2
      · have e : shw (.mk op 0 [] [a, b]) = shi a ++ 32 :: (op ++ 32 :: shi b) := shw_two op hlf
        rw [e] at hw
        simp at hw
        have h1 : (shi a).length ≤ 1000000 := by omega
        have h2 : (shi b).length ≤ 1000000 := by omega
        exact rshow_two P op (two_all h) 0 [] a b h1 h2 (IH h6 a (by simp) h1).2 (IH h6 b (by simp) h2).2

set_option maxRecDepth 100000 in
set_option maxHeartbeats 3200000 in
/-- the reference's PrintArith of what has the form -/
theorem rprint_ok (P : Nat → Prop) (x : Ex) (hs : shaped x = true) (hl : (shi x).length ≤ 1000000) (hd : x.depth ≤ 50) (v : Value) (w : World) (hx : ExV P w v x) (hp : PW w) :
    Calls Tryz.prog 13 #[v] w fun e w' => e = .returned (.tuple #[.string (toB (shw x)), .int .i64 0]) ∧ Below w.heap.size w w' := by
  have hsz := shaped_size hs
  have hwl := shw_le x
  have R1 := rshape_all P x.size x (Nat.le_refl _) hs
  have R2 := rdepth_any P x.size x (Nat.le_refl _) (by omega)
  have R3 := (rshow_all P x.size x (Nat.le_refl _) hs hl).1
  obtain ⟨n5, A5, k5, c5, nm5, rfl, hq⟩ := hx.form
  have ba := (Below.refl w.heap.size w).alloc (Nat.le_refl _) (.cells #[.string (toB x.op), .int .i64 n5, .string (toB nm5), .slice A5 k5 c5] 25)
  have HB := Lib.hid ba
  have F := Lib.hid (Four.new w (.string (toB x.op)) (.int .i64 n5) (.string (toB nm5)) (.slice A5 k5 c5))
  have H1 := Lib.hid (fun W (hb : Below w.heap.size w W) => R1 _ W (hx.below hb))
  have H2 := Lib.hid (fun W (hb : Below w.heap.size w W) => R2 _ W (hx.below hb))
  have H3 := Lib.hid (fun W (hb : Below w.heap.size w W) => R3 _ W (hx.below hb) (hp.keep hb))
  rw [hs] at H1
  rw [if_neg (by decide)] at H3
  have hd2 : ¬ (50 : Int) < (x.depth : Int) := by omega
  clear hx hq R1 R2 R3 hs hl hsz hwl ba
  generalize shw x = T at *
  generalize x.depth = D at *
  go_enter Tryz.func13, Tryz.ntmps13
  obtain ⟨c0, c1, c2, c3, cf⟩ := F.out.cells
  go_wp2_with fail
  refine (H1.out _ HB.out).mono ?_
  rintro e w2 ⟨rfl, hb2⟩
  have HB2 := Lib.hid (HB.out.trans (hb2.mono HB.out.size))
  have F2 := Lib.hid (Four.keep F.out hb2)
  obtain ⟨d0, d1, d2, d3, df⟩ := F2.out.cells
  clear hb2 c0 c1 c2 c3 cf
  go_wp2_with fail
  refine (H2.out _ HB2.out).mono ?_
  rintro e w3 ⟨rfl, hb3⟩
  have HB3 := Lib.hid (HB2.out.trans (hb3.mono HB2.out.size))
  have F3 := Lib.hid (Four.keep F2.out hb3)
  obtain ⟨c0, c1, c2, c3, cf⟩ := F3.out.cells
  clear hb3 d0 d1 d2 d3 df
  go_wp2_with fail
  refine (H3.out _ HB3.out).mono ?_
  rintro e w4 ⟨rfl, hb4⟩
  have HB4 := Lib.hid (HB3.out.trans (hb4.mono HB3.out.size))
  clear hb4 c0 c1 c2 c3 cf
  go_wp2_with fail
  exact bodyPost_ret (v := .tuple #[.string (toB T), .int .i64 0]) (by simp [results, Tryz.results13, go_sem]) rfl ⟨rfl, HB4.out⟩

end Go.Proofs.YtiigclkebnmopaaGreatDoor
