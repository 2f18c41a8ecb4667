/- Times, the program: a set is written as a list of numbers and ranges. (Begun; see NOTES.md.) -/
import Derived.Test.YtlhaidibcocooaaGreatDoorTimesA
import Derived.Laws.OwnMore
import Derived.Deep.AppendLies
import Derived.Test.YtlhaidibcocooaaGreatDoorShelf
namespace Go.Proofs.YtlhaidibcocooaaGreatDoor
open Go.RowKit

/-- texts that the call owns -/
structure OT (w0 w : World) (v : Value) (L : List ByteArray) : Prop where
  own : w.ownsRow w0.heap.size 9 1 v L.length (L.map Value.string)
  below : Below w0.heap.size w0 w
def partB (p : Nat × Nat) : ByteArray := ⟨(pkT (pkOf p)).toArray⟩

theorem bit_at (set n : Nat) (hs : set < 18446744073709551616) : bits .and .u64 ((set : Int) / (2 : Int) ^ n) 1 = (if set.testBit n = true then 1 else 0) := by
  have h1 : ((set : Int) / (2 : Int) ^ n) = ((set / 2 ^ n : Nat) : Int) := by norm_cast
  have h2 : set / 2 ^ n < 18446744073709551616 := Nat.lt_of_le_of_lt (Nat.div_le_self _ _) hs
  have h3 := u64_and_nat (set / 2 ^ n) 1 h2 (by decide)
  rw [h1]
  refine h3.trans ?_
  rw [nat_mask1, Nat.testBit_eq_decide_div_mod_eq]
  have h4 := Nat.mod_two_eq_zero_or_one (set / 2 ^ n)
  rcases h4 with h4 | h4 <;> simp [h4]
theorem bit_yes {set n : Nat} (hs : set < 18446744073709551616) (h : set.testBit n = true) : bits .and .u64 ((set : Int) / (2 : Int) ^ n) 1 = 1 := by rw [bit_at set n hs, if_pos h]
theorem bit_no {set n : Nat} (hs : set < 18446744073709551616) (h : set.testBit n = false) : bits .and .u64 ((set : Int) / (2 : Int) ^ n) 1 = 0 := by rw [bit_at set n hs, if_neg (by rw [h]; decide)]
theorem OT.app {w0 w w' : World} {v v' : Value} {L : List ByteArray} {x : ByteArray} (h : OT w0 w v L) (ho : w'.ownsRow w0.heap.size 9 1 v' (L.length + 1) (L.map Value.string ++ [.string x])) (hg : w.grownBy w' v.ownBlock) : OT w0 w' v' (L ++ [x]) := by
  refine ⟨by rw [List.length_append, List.map_append]; exact ho, ?_⟩
  exact ⟨hg.os.trans h.below.os, hg.tape.trans h.below.tape, hg.output.trans h.below.output, Nat.le_trans h.below.size hg.size, fun k hk => (hg.block k (Nat.lt_of_lt_of_le hk h.below.size) (fun e => by have := (h.own.lt k e.symm).1; omega)).trans (h.below.block k hk)⟩
theorem OT.alloc {w0 w : World} {v : Value} {L : List ByteArray} (h : OT w0 w v L) (o : Obj) : OT w0 (w.alloc o) v L := ⟨h.own.alloc o, h.below.alloc h.below.size o⟩
theorem info_text : (Tryz.prog.info? 9).map (fun i => (i.zero, i.size, i.bytes)) = some (some (.string ⟨#[]⟩), 1, 16) := by kernel_rfl

theorem join_len (xs : List (List UInt8)) (sep : List UInt8) (m : Nat) (h : ∀ x ∈ xs, x.length ≤ m) : (Lib.join xs sep).length ≤ xs.length * (m + sep.length) := by
  unfold Lib.join
  induction xs with
  | nil => simp [List.intercalate]
  | cons x r ih =>
    have h1 := h x List.mem_cons_self
    have h2 := ih (fun y hy => h y (List.mem_cons_of_mem _ hy))
    cases r with
    | nil => simp [List.intercalate]; omega
    | cons y r =>
      have : sep.intercalate (x :: y :: r) = x ++ sep ++ sep.intercalate (y :: r) := by simp [List.intercalate]
      rw [this, List.length_append, List.length_append, List.length_cons, Nat.add_one_mul]
      omega
set_option maxHeartbeats 800000 in
theorem join_any (w0 w : World) (v : Value) (L : List ByteArray) (sep : ByteArray) (h : OT w0 w v L) (hn : L.length ≤ 1000) (hs : ∀ x ∈ L, x.size ≤ 100000) (hp : sep.size ≤ 100) :
    Calls Tryz.prog 24 #[v, .string sep] w fun e w' => e = .returned (.string ⟨(Lib.join (L.map (·.data.toList)) sep.data.toList).toArray⟩) ∧ Below w.heap.size w w' := by
  rcases h.own.2 with ⟨rfl, h0⟩ | ⟨g, cap, cur, rfl, h1, h2, h3, h4, h5, h6⟩
  · have hl := List.length_eq_zero_iff.1 h0
    subst hl
    refine (Tryz.strings_Join_none none 0 sep w).mono ?_
    rintro e w' ⟨rfl, rfl⟩
    exact ⟨rfl, Below.refl _ _⟩
  · refine Tryz.strings_Join g 0 cap L sep w (fun j x hx => ?_) (h.own.lt g rfl).2 (by omega) h3 ?_
    · rw [Nat.zero_add, h.own.cellAt j (by have := (List.getElem?_eq_some_iff.1 hx).1; omega), List.getElem?_map, hx]
      rfl
    · have := join_len (L.map (·.data.toList)) sep.data.toList 100000 (fun x hx => by
        obtain ⟨y, hy, rfl⟩ := List.mem_map.1 hx
        have := hs y hy
        simpa using this)
      rw [List.length_map] at this
      have h7 : sep.data.toList.length ≤ 100 := by simpa using hp
      have h8 : L.length * (100000 + sep.data.toList.length) ≤ 1000 * (100000 + 100) := Nat.mul_le_mul hn (by omega)
      omega
theorem partB_one (n : Nat) : partB (n, n) = ⟨(Lib.decDigits n).toArray⟩ := by simp [partB, pkOf, pkT]
theorem partB_two (n e : Nat) (h : n ≠ e) : partB (n, e) = (⟨(Lib.decDigits n).toArray⟩ : ByteArray) ++ ⟨#[45]⟩ ++ ⟨(Lib.decDigits e).toArray⟩ := by
  apply ByteArray.ext
  simp [partB, pkOf, pkT, h, ByteArray.data_append]
theorem digits_small {n : Nat} (h : n < 100) : (Lib.decDigits n).length ≤ 2 := by
  by_cases h1 : n < 10
  · rw [Lib.decDigits_one h1]; simp
  · rw [Lib.decDigits_two h1 h]; simp
theorem partB_small {p : Nat × Nat} (h1 : p.1 < 100) (h2 : p.2 < 100) : (partB p).size ≤ 5 := by
  have a1 := digits_small h1
  have a2 := digits_small h2
  show (pkT (pkOf p)).toArray.size ≤ 5
  rw [List.size_toArray]
  unfold pkOf
  split
  · show (Lib.decDigits p.1).length ≤ 5; omega
  · show (Lib.decDigits p.1 ++ 45 :: Lib.decDigits p.2).length ≤ 5
    rw [List.length_append, List.length_cons]; omega
theorem itoa_var {n : Nat} (h : n < 100) : ∃ d : ByteArray, d = ⟨(Lib.decDigits n).toArray⟩ ∧ d.size ≤ 2 ∧ ∀ W, Calls Tryz.prog 35 #[.int .i64 (n : Int)] W fun e w' => e = .returned (.string d) ∧ w' = W :=
  ⟨_, rfl, by show (Lib.decDigits n).toArray.size ≤ 2; rw [List.size_toArray]; exact digits_small h, fun W => Tryz.strconv_Itoa_small n h W⟩
/-- the texts of the parts -/
theorem parts_text (set : Nat) : Lib.join (((partsL set 64 0).map partB).map (·.data.toList)) [44] = fieldT (listK set) := by
  unfold fieldT listK
  rw [List.map_map, List.map_map]
  rfl

set_option maxRecDepth 100000 in
set_option maxHeartbeats 1600000 in
theorem listed_any (set : Nat) (w : World) (hset : set < 18446744073709551616) :
    Calls Tryz.prog 50 #[.int .u64 (set : Int)] w fun e w' => e = .returned (.string ⟨(fieldT (listK set)).toArray⟩) ∧ Below w.heap.size w w' := by
  obtain ⟨ALL, hall⟩ : ∃ ALL, (partsL set 64 0).map partB = ALL := ⟨_, rfl⟩
  have HA := Lib.hid hall
  clear hall
  go_enter Tryz.func50, Tryz.ntmps50
  go_wp2_with fail
  go_loopw [3, 4] (fun s3 s4 wr => ∃ (v : Value) (n f : Nat) (L : List ByteArray), v = s3 ∧ s4 = .int .i64 (n : Int) ∧ n ≤ 64 ∧ 64 - n ≤ f ∧ L.length ≤ n ∧ Hid (L ++ (partsL set f n).map partB = ALL) ∧ Hid (OT w wr v L)) (fun _ s4 _ => 64 - (intOf s4).toNat)
  case atStart => exact ⟨_, 0, 64, [], rfl, rfl, by omega, by omega, by simp, HA.out, ⟨⟨rfl, .inl ⟨rfl, rfl⟩⟩, Below.refl _ _⟩⟩
  case round =>
    obtain ⟨v, n, f, L, rfl, rfl, hn, hf, hL, HE, HO⟩ := hrel
    by_cases hlt : n < 64
    · obtain ⟨i0, hi, hz0, hz1, hz2⟩ := info_parts info_text
      obtain ⟨f', rfl⟩ : ∃ f', f = f' + 1 := ⟨f - 1, by omega⟩
      have HM := Lib.hid (show L.length + 1 ≤ maxLen ∧ (L.length + 1) * 16 ≤ 140737488355328 from ⟨by unfold maxLen; omega, by omega⟩)
      have HE2 := HE.out
      rw [partsL, if_pos hlt] at HE2
      cases hb : set.testBit n with
      | false =>
        have hbit := bit_no hset hb
        rw [if_neg (by rw [hb]; decide)] at HE2
        have HE3 := Lib.hid HE2
        clear HE HE2 hb
        go_wp2_with fail
        exact ⟨⟨v, n + 1, f', L, rfl, by go_num, by omega, by omega, by omega, HE3, HO⟩, by simp [intOf]; omega⟩
      | true =>
        have hbit := bit_yes hset hb
        obtain ⟨dn, hdn0, hdns, hdnc⟩ := itoa_var (n := n) (by omega)
        have hdn := Lib.hid hdn0
        have HDn := Lib.hid hdnc
        clear hdnc hdn0
        have hltI : decide ((n : Int) < 64) = true := by rw [decide_eq_true_eq]; omega
        rw [if_pos hb] at HE2
        have HE3 := Lib.hid HE2
        clear HE HE2 hb
        go_wp2_with fail
        obtain ⟨wo, hwo⟩ : ∃ wo, wo = wr := ⟨_, rfl⟩
        subst hwo
        go_loopw [5] (fun s5 wx => ∃ e : Nat, s5 = .int .i64 (e : Int) ∧ n ≤ e ∧ e < 64 ∧ Hid (runEnd set e = runEnd set n) ∧ wx = wo) (fun s5 _ => 64 - (intOf s5).toNat)
        case atStart => exact ⟨n, rfl, Nat.le_refl _, hlt, rfl, rfl⟩
        case round =>
          obtain ⟨e, rfl, he1, he2, HR, rfl⟩ := hrel
          by_cases h63 : e < 63
          · have e5 : IntKind.i64.wrap ((e : Int) + 1) = (e : Int) + 1 := IntWalk.i64_in _ (by omega)
            have e6 : ((e : Int) + 1).toNat = e + 1 := by omega
            cases hb2 : set.testBit (e + 1) with
            | true =>
              have hbit2 := bit_yes hset hb2
              have hre : runEnd set (e + 1) = runEnd set n := by
                have := HR.out
                rw [runEnd, if_pos ⟨h63, hb2⟩] at this
                exact this
              have HR2 := Lib.hid hre
              clear hre HR
              go_wp2_with fail
              go_roundw
              case rel => exact ⟨e + 1, by go_num, by omega, by omega, HR2, trivial⟩
              case measure => simp [intOf]; omega
            | false =>
              have hbit2 := bit_no hset hb2
              have hre : e = runEnd set n := by
                have := HR.out
                rw [runEnd, if_neg (fun hc => by rw [hb2] at hc; exact absurd hc.2 (by decide))] at this
                exact this
              have HR := Lib.hid hre
              clear hre
              have hE2 := HE3.out
              rw [← HR.out] at hE2
              by_cases h2 : e < n + 2
              · rw [if_pos h2] at hE2
                have HE4 := Lib.hid hE2
                have hd : decide ((e : Int) < (n : Int) + 2) = true := by rw [decide_eq_true_eq]; omega
                clear hE2 HE3 HR
                go_wp2_with fail
                refine (HDn.out _).mono ?_
                rintro e' w' ⟨rfl, hw'⟩
                rw [hw']
                clear hw'
                go_wp2_with (at_builtin; refine wpList_append_own _ rfl _ _ 63 rfl w.heap.size 9 i0 (.string ⟨#[]⟩) 1 16 Tryz.underlying63 hi hz0 hz1 hz2 rfl (by decide) v L.length _ rfl (HO.out.alloc _).own _ 1 1 [.string dn] rfl rfl (World.news_of_block (heap_alloc_new _ _)) (fun z hz => by simp at hz; subst hz; rfl) HM.out.1 HM.out.2 (Nat.le_trans HO.out.below.size (by simp)) ?_)
                intro v6 w6 hown6 hg6 _
                have HO6 := Lib.hid (OT.app (HO.out.alloc _) hown6 hg6)
                clear hown6 hg6
                go_wp2_with fail
                exact ⟨⟨v6, n + 1, f', L ++ [dn], rfl, by go_num, by omega, by omega, by rw [List.length_append]; simp; omega, by rw [List.append_assoc]; have := HE4.out; rw [List.map_cons, partB_one, ← hdn.out] at this; exact this, HO6⟩, by simp [intOf]; omega⟩
              · rw [if_neg h2] at hE2
                have HE4 := Lib.hid hE2
                obtain ⟨de, hde0, hdes, hdec⟩ := itoa_var (n := e) (by omega)
                have hde := Lib.hid hde0
                have HDe := Lib.hid hdec
                clear hdec hde0
                have hd : decide ((e : Int) < (n : Int) + 2) = false := by rw [decide_eq_false_iff_not]; omega
                clear hE2 HE3 HR
                go_wp2_with fail
                refine (HDn.out _).mono ?_
                rintro e' w' ⟨rfl, hw'⟩
                rw [hw']
                clear hw'
                go_wp2_with fail
                refine (HDe.out _).mono ?_
                rintro e' w' ⟨rfl, hw'⟩
                rw [hw']
                clear hw'
                go_wp2_with (at_builtin; refine wpList_append_own _ rfl _ _ 63 rfl w.heap.size 9 i0 (.string ⟨#[]⟩) 1 16 Tryz.underlying63 hi hz0 hz1 hz2 rfl (by decide) v L.length _ rfl (HO.out.alloc _).own _ 1 1 [.string (dn ++ ⟨#[45]⟩ ++ de)] rfl rfl (World.news_of_block (heap_alloc_new _ _)) (fun z hz => by simp at hz; subst hz; rfl) HM.out.1 HM.out.2 (Nat.le_trans HO.out.below.size (by simp)) ?_)
                intro v6 w6 hown6 hg6 _
                have HO6 := Lib.hid (OT.app (HO.out.alloc _) hown6 hg6)
                clear hown6 hg6
                go_wp2_with fail
                exact ⟨⟨v6, e + 1, f', L ++ [(dn ++ ⟨#[45]⟩ ++ de)], rfl, by go_num, by omega, by omega, by rw [List.length_append]; simp; omega, by rw [List.append_assoc]; have := HE4.out; rw [List.map_cons, partB_two n e (by omega), ← hdn.out, ← hde.out] at this; exact this, HO6⟩, by simp [intOf]; omega⟩
          · have hre : e = runEnd set n := by
              have := HR.out
              rw [runEnd, if_neg (fun hc => h63 hc.1)] at this
              exact this
            have HR := Lib.hid hre
            clear hre
            have hE2 := HE3.out
            rw [← HR.out] at hE2
            by_cases h2 : e < n + 2
            · rw [if_pos h2] at hE2
              have HE4 := Lib.hid hE2
              have hd : decide ((e : Int) < (n : Int) + 2) = true := by rw [decide_eq_true_eq]; omega
              clear hE2 HE3 HR
              go_wp2_with fail
              refine (HDn.out _).mono ?_
              rintro e' w' ⟨rfl, hw'⟩
              rw [hw']
              clear hw'
              go_wp2_with (at_builtin; refine wpList_append_own _ rfl _ _ 63 rfl w.heap.size 9 i0 (.string ⟨#[]⟩) 1 16 Tryz.underlying63 hi hz0 hz1 hz2 rfl (by decide) v L.length _ rfl (HO.out.alloc _).own _ 1 1 [.string dn] rfl rfl (World.news_of_block (heap_alloc_new _ _)) (fun z hz => by simp at hz; subst hz; rfl) HM.out.1 HM.out.2 (Nat.le_trans HO.out.below.size (by simp)) ?_)
              intro v6 w6 hown6 hg6 _
              have HO6 := Lib.hid (OT.app (HO.out.alloc _) hown6 hg6)
              clear hown6 hg6
              go_wp2_with fail
              exact ⟨⟨v6, n + 1, f', L ++ [dn], rfl, by go_num, by omega, by omega, by rw [List.length_append]; simp; omega, by rw [List.append_assoc]; have := HE4.out; rw [List.map_cons, partB_one, ← hdn.out] at this; exact this, HO6⟩, by simp [intOf]; omega⟩
            · rw [if_neg h2] at hE2
              have HE4 := Lib.hid hE2
              obtain ⟨de, hde0, hdes, hdec⟩ := itoa_var (n := e) (by omega)
              have hde := Lib.hid hde0
              have HDe := Lib.hid hdec
              clear hdec hde0
              have hd : decide ((e : Int) < (n : Int) + 2) = false := by rw [decide_eq_false_iff_not]; omega
              clear hE2 HE3 HR
              go_wp2_with fail
              refine (HDn.out _).mono ?_
              rintro e' w' ⟨rfl, hw'⟩
              rw [hw']
              clear hw'
              go_wp2_with fail
              refine (HDe.out _).mono ?_
              rintro e' w' ⟨rfl, hw'⟩
              rw [hw']
              clear hw'
              go_wp2_with (at_builtin; refine wpList_append_own _ rfl _ _ 63 rfl w.heap.size 9 i0 (.string ⟨#[]⟩) 1 16 Tryz.underlying63 hi hz0 hz1 hz2 rfl (by decide) v L.length _ rfl (HO.out.alloc _).own _ 1 1 [.string (dn ++ ⟨#[45]⟩ ++ de)] rfl rfl (World.news_of_block (heap_alloc_new _ _)) (fun z hz => by simp at hz; subst hz; rfl) HM.out.1 HM.out.2 (Nat.le_trans HO.out.below.size (by simp)) ?_)
              intro v6 w6 hown6 hg6 _
              have HO6 := Lib.hid (OT.app (HO.out.alloc _) hown6 hg6)
              clear hown6 hg6
              go_wp2_with fail
              exact ⟨⟨v6, e + 1, f', L ++ [(dn ++ ⟨#[45]⟩ ++ de)], rfl, by go_num, by omega, by omega, by rw [List.length_append]; simp; omega, by rw [List.append_assoc]; have := HE4.out; rw [List.map_cons, partB_two n e (by omega), ← hdn.out, ← hde.out] at this; exact this, HO6⟩, by simp [intOf]; omega⟩
    · have hnn : n = 64 := by omega
      subst hnn
      have hEE : L = ALL := by
        have h := HE.out
        cases f with
        | zero => simpa [partsL] using h
        | succ f => simpa [partsL] using h
      subst hEE
      have hsm : ∀ x ∈ L, x.size ≤ 100000 := fun x hx => by
        have h := HA.out
        rw [← h] at hx
        obtain ⟨q, hq, rfl⟩ := List.mem_map.1 hx
        have h9 := partsL_range set 64 0 q hq
        have := partB_small (p := q) (by omega) (by omega)
        omega
      have HJ := Lib.hid (join_any w wr v L ⟨#[44]⟩ HO.out (by omega) hsm (by decide))
      have HBo := Lib.hid HO.out.below
      clear hsm HE
      go_wp2_with fail
      refine HJ.out.mono ?_
      rintro e w2 ⟨rfl, hb2⟩
      go_wp2_with fail
      go_ret
      exact ⟨ret_str (by rw [← parts_text, HA.out]), HBo.out.trans (hb2.mono HBo.out.size)⟩

end Go.Proofs.YtlhaidibcocooaaGreatDoor
