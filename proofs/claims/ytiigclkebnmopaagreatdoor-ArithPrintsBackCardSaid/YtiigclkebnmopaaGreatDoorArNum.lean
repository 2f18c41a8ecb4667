/- Arithmetic expressions: the program's reader: what a numeral is. (Begun; see NOTES.md.) -/
import Derived.Test.YtiigclkebnmopaaGreatDoorArSign
import Derived.Deep.CutBlock
namespace Go.Proofs.YtiigclkebnmopaaGreatDoor
open Go.RowKit Go.Shelf

/-- what the program makes of a digit -/
def dP (c : UInt8) : Int := if dv c = 99 then -1 else (dv c : Int)
def hexD : ByteArray := ⟨#[48, 49, 50, 51, 52, 53, 54, 55, 56, 57, 97, 98, 99, 100, 101, 102]⟩
def d0 (c : UInt8) : Int := Lib.indexByte hexD.data.toList (bits BinOp.or IntKind.u8 (c.toNat : Int) 32).toNat.toUInt8
def digitT (c : UInt8) : Bool := decide ((if isD c = true then (c.toNat : Int) - 48 else if isL c = false ∨ c = 95 then -1 else d0 c) = dP c)
theorem dv_le (c : UInt8) : dv c = 99 ∨ dv c ≤ 15 := by
  unfold dv isD
  simp only [decide_eq_true_eq]
  split
  · omega
  · split
    · omega
    · split <;> omega
theorem digit_all : (List.range 256).all (fun n => digitT (UInt8.ofNat n)) = true := by decide +kernel
theorem digit_ok (c : UInt8) : (if isD c = true then (c.toNat : Int) - 48 else if isL c = false ∨ c = 95 then -1 else d0 c) = dP c := by
  have h := List.all_eq_true.1 digit_all c.toNat (List.mem_range.2 c.toNat_lt)
  rw [UInt8.ofNat_toNat] at h
  exact of_decide_eq_true h
theorem toB_drop (s : List UInt8) (k : Nat) : (toB s).extract k s.length = toB (s.drop k) := by
  apply ByteArray.ext
  apply Array.toList_inj.1
  simp [toB, ByteArray.data_extract]
  exact List.take_of_length_le (by simp)
theorem toB_get (s : List UInt8) (k : Nat) (h : k < (toB s).size) : (toB s)[k]'h = s[k]'(by rw [toB_size] at h; exact h) := by
  show (toB s).data[k]'_ = _
  simp [toB]
def NumGives (s : List UInt8) (w : World) (e : Ending) (w' : World) : Prop := e = .returned (.tuple #[.int .i64 (((numOf s).getD 0 : Nat) : Int), .bool (numOf s).isSome]) ∧ w = w'
set_option maxRecDepth 100000 in
set_option maxHeartbeats 1600000 in
theorem numberOf_any (s : List UInt8) (w : World) (hs : s.length ≤ 32768) :
    Calls Tryz.prog 235 #[.string (toB s)] w (NumGives s w) := by
  have hsz := toB_size s
  obtain ⟨Q, hQ⟩ : ∃ Q, NumGives s w = Q := ⟨_, rfl⟩
  rw [hQ]
  have HQ := Lib.hid hQ
  clear hQ
  go_enter Tryz.func235, Tryz.ntmps235
  go_upto_block 0 with fail
  go_cut [0, 4] (fun s0 s4 wx => s0 = .string (toB (digsOf s)) ∧ s4 = .int .i64 (baseOf s : Int) ∧ wx = w)
  case first =>
    by_cases h1 : s.take 2 = [48, 120]
    · have hp : Lib.hasPrefix s [48, 120] = true := by
        obtain ⟨r, hr⟩ : ∃ r, s = 48 :: 120 :: r := ⟨s.drop 2, by rw [← List.take_append_drop 2 s, h1]; rfl⟩
        rw [hr]
        simp [Lib.hasPrefix]
      have hl2 : 2 ≤ s.length := by
        have := congrArg List.length h1
        simp at this
        omega
      have hex := toB_drop s 2
      have HE := Lib.hid (show digsOf s = s.drop 2 ∧ baseOf s = 16 from ⟨by unfold digsOf; rw [if_pos h1], by unfold baseOf; rw [if_pos h1]⟩)
      have HP : Hid (∀ W, Calls Tryz.prog 58 #[.string (toB s), .string ⟨#[48, 120]⟩] W fun e w' => e = .returned (.bool true) ∧ w' = W) := Lib.hid (fun W => by
        have := Tryz.strings_HasPrefix (toB s) ⟨#[48, 120]⟩ W
        rw [toB_list, show (⟨#[48, 120]⟩ : ByteArray).data.toList = [48, 120] from rfl, hp] at this
        exact this)
      clear h1 hp
      go_wp2_with fail
      refine (HP.out _).mono ?_
      rintro e w2 ⟨rfl, rfl⟩
      go_wp2_with fail
      go_meet
      exact ⟨by rw [HE.out.1] <;> first | rfl | rw [List.drop_one], by rw [HE.out.2]; rfl, rfl⟩
    · have hp : Lib.hasPrefix s [48, 120] = false := by
        cases hq : Lib.hasPrefix s [48, 120] with
        | false => rfl
        | true =>
          obtain ⟨r, hr⟩ := List.isPrefixOf_iff_prefix.1 hq
          exact absurd (by rw [← hr]; rfl) h1
      have HP : Hid (∀ W, Calls Tryz.prog 58 #[.string (toB s), .string ⟨#[48, 120]⟩] W fun e w' => e = .returned (.bool false) ∧ w' = W) := Lib.hid (fun W => by
        have := Tryz.strings_HasPrefix (toB s) ⟨#[48, 120]⟩ W
        rw [toB_list, show (⟨#[48, 120]⟩ : ByteArray).data.toList = [48, 120] from rfl, hp] at this
        exact this)
      clear hp
      by_cases h2 : 1 < s.length
      · have h0 : 0 < (toB s).size := by rw [hsz]; omega
        have hg := toB_get s 0 h0
        have hl1 : (1 : Int) < (s.length : Int) := by omega
        by_cases h3 : s[0] = 48
        · have hat : ((toB s)[0]'h0) = 48 := hg.trans h3
          have h4 : s.take 1 = [48] := by
            rw [List.take_one, ← h3]
            cases s with
            | nil => simp at h2
            | cons a r => rfl
          have hex := toB_drop s 1
          have HE := Lib.hid (show digsOf s = s.drop 1 ∧ baseOf s = 8 from ⟨by unfold digsOf; rw [if_neg h1, if_pos ⟨h2, h4⟩], by unfold baseOf; rw [if_neg h1, if_pos ⟨h2, h4⟩]⟩)
          clear h1 h3 h4 hg
          go_wp2_with fail
          refine (HP.out _).mono ?_
          rintro e w2 ⟨rfl, rfl⟩
          go_wp2_with fail
          go_meet
          exact ⟨by rw [HE.out.1] <;> first | rfl | rw [List.drop_one], by rw [HE.out.2]; rfl, rfl⟩
        · have hat : (((toB s)[0]'h0).toNat : Int) ≠ 48 := by
            rw [hg]
            exact fun e => h3 (UInt8.toNat_inj.1 (show s[0].toNat = 48 by omega))
          have hate : ((((toB s)[0]'h0).toNat : Int) == 48) = false := by rw [beq_eq_false_iff_ne]; exact hat
          have h4 : s.take 1 ≠ [48] := fun e => h3 (by
            rw [List.take_one] at e
            cases s with
            | nil => simp at h2
            | cons a r =>
              have e2 : some a = some 48 := by simpa using e
              exact Option.some.inj e2)
          have HE := Lib.hid (show digsOf s = s ∧ baseOf s = 10 from ⟨by unfold digsOf; rw [if_neg h1, if_neg (fun h => h4 h.2)], by unfold baseOf; rw [if_neg h1, if_neg (fun h => h4 h.2)]⟩)
          clear h1 h3 h4 hg hat
          go_wp2_with fail
          refine (HP.out _).mono ?_
          rintro e w2 ⟨rfl, rfl⟩
          go_wp2_with fail
          go_meet
          exact ⟨by rw [HE.out.1] <;> first | rfl | rw [List.drop_one], by rw [HE.out.2]; rfl, rfl⟩
      · have HE := Lib.hid (show digsOf s = s ∧ baseOf s = 10 from ⟨by unfold digsOf; rw [if_neg h1, if_neg (fun h => h2 h.1)], by unfold baseOf; rw [if_neg h1, if_neg (fun h => h2 h.1)]⟩)
        clear h1
        go_wp2_with fail
        refine (HP.out _).mono ?_
        rintro e w2 ⟨rfl, rfl⟩
        go_wp2_with fail
        go_meet
        exact ⟨by rw [HE.out.1] <;> first | rfl | rw [List.drop_one], by rw [HE.out.2]; rfl, rfl⟩
  case rest =>
    obtain ⟨rfl, rfl, hw⟩ := hcut
    subst hw
    have HF := Lib.hid (show numOf s = if digsOf s = [] then none else numV (baseOf s) (digsOf s) 0 from rfl)
    have hbase : baseOf s = 8 ∨ baseOf s = 10 ∨ baseOf s = 16 := by
      unfold baseOf
      split
      · exact .inr (.inr rfl)
      · split
        · exact .inl rfl
        · exact .inr (.inl rfl)
    have hdl : (digsOf s).length ≤ 32768 := by
      unfold digsOf
      split
      · simp; omega
      · split
        · simp; omega
        · exact hs
    obtain ⟨res, hres⟩ : ∃ res, numOf s = res := ⟨_, rfl⟩
    have HRS := Lib.hid hres
    rw [hres] at HF
    clear hres
    generalize digsOf s = ds at *
    obtain ⟨base, hbs⟩ : ∃ base, baseOf s = base := ⟨_, rfl⟩
    rw [hbs] at hbase HF
    rw [hbs]
    clear hbs hs hsz
    have hsz := toB_size ds
    go_wp2_with fail
    go_loop [5, 26] (fun s5 s26 => ∃ k n : Nat, s26 = .int .i64 (k : Int) ∧ s5 = .int .i64 (n : Int) ∧ k ≤ ds.length ∧ n ≤ 9223372036854775807 ∧ Hid (numV base (ds.drop k) n = numV base ds 0)) (fun _ s26 => ds.length - (intOf s26).toNat)
    case atStart => exact ⟨0, 0, rfl, rfl, Nat.zero_le _, Nat.zero_le _, Lib.hid rfl⟩
    case round =>
      obtain ⟨k, n, rfl, rfl, hk, hn, HV⟩ := hrel
      by_cases hlt : k < ds.length
      · have hb2 : k < (toB ds).size := by omega
        have hg := toB_get ds k hb2
        have hdr : ds.drop k = ds[k] :: ds.drop (k + 1) := List.drop_eq_getElem_cons hlt
        have HV2 := Lib.hid (show (if dv ds[k] < base ∧ base * n + dv ds[k] ≤ maxN then numV base (ds.drop (k + 1)) (base * n + dv ds[k]) else none) = numV base ds 0 by rw [← HV.out, hdr]; rfl)
        generalize ds[k] = c at *
        have hc := c.toNat_lt
        clear hdr
        go_wp2_with fail
        refine (Tryz.strings_IndexByte _ _ _).mono ?_
        rintro e w2 ⟨rfl, rfl⟩
        rw [show Lib.indexByte (ByteArray.mk #[48, 49, 50, 51, 52, 53, 54, 55, 56, 57, 97, 98, 99, 100, 101, 102]).data.toList (bits BinOp.or IntKind.u8 (c.toNat : Int) 32).toNat.toUInt8 = d0 c from rfl]
        have HDk := Lib.hid (digit_ok c)
        generalize d0 c = dd at *
        go_upto_if 38 with (go_at_call 143; refine (isDigit_any _ _).mono ?_; rintro e w3 ⟨rfl, rfl⟩)
        rw [isDB_u8]
        go_cut [7] (fun s7 wx => s7 = .int .i64 (dP c) ∧ wx = w2)
        case first =>
          cases hD : isD c with
          | true =>
            have hd1 : 48 ≤ c.toNat := by unfold isD at hD; simp at hD; omega
            have hd2 : c.toNat ≤ 57 := by unfold isD at hD; simp at hD; omega
            have HK := Lib.hid (show (c.toNat : Int) - 48 = dP c by have := HDk.out; rw [hD, if_pos rfl] at this; exact this)
            clear hD
            go_wp2_with fail
            go_meet
            exact ⟨by rw [HK.out], rfl⟩
          | false =>
            have HK := Lib.hid (show (if isL c = false ∨ c = 95 then -1 else dd) = dP c by have := HDk.out; rw [hD, if_neg (by decide)] at this; exact this)
            clear hD
            go_wp2_with fail
            refine (isLetter_any _ _).mono ?_
            rintro e w3 ⟨rfl, rfl⟩
            rw [isLB_u8]
            cases hL : isL c with
            | false =>
              have HK2 := Lib.hid (show -1 = dP c by have := HK.out; rw [if_pos (.inl hL)] at this; exact this)
              clear hL
              go_wp2_with fail
              go_meet
              exact ⟨by rw [← HK2.out], rfl⟩
            | true =>
              by_cases h95 : c = 95
              · have he : ((c.toNat : Int) == 95) = true := by rw [h95]; rfl
                have HK2 := Lib.hid (show -1 = dP c by have := HK.out; rw [if_pos (.inr h95)] at this; exact this)
                clear hL h95
                go_wp2_with fail
                go_meet
                exact ⟨by rw [← HK2.out], rfl⟩
              · have he : ((c.toNat : Int) == 95) = false := by
                  rw [beq_eq_false_iff_ne]
                  exact fun e => h95 (UInt8.toNat_inj.1 (show c.toNat = 95 by omega))
                have HK2 := Lib.hid (show dd = dP c by have := HK.out; rw [if_neg (by rw [hL]; simp [h95])] at this; exact this)
                clear hL h95
                go_wp2_with fail
                go_meet
                exact ⟨by rw [← HK2.out], rfl⟩
        case rest =>
          obtain ⟨rfl, hw⟩ := hcut
          subst hw
          have hdP : (dv c = 99 ∧ dP c = -1) ∨ (dv c ≤ 15 ∧ dP c = (dv c : Int)) := by
            unfold dP
            rcases dv_le c with h | h
            · exact .inl ⟨h, by rw [if_pos h]⟩
            · exact .inr ⟨h, by rw [if_neg (by omega)]⟩
          generalize dP c = dp at *
          generalize dv c = v at *
          have HN : Hid (¬ (v < base ∧ base * n + v ≤ maxN) → res = none) := Lib.hid (fun h => by
            rw [HF.out]
            split
            · rfl
            · rw [← HV2.out, if_neg h])
          unfold maxN at HN HV2
          rcases hdP with ⟨rfl, rfl⟩ | ⟨hv, rfl⟩
          · have HR := Lib.hid (HN.out (by omega))
            rcases hbase with rfl | rfl | rfl
            all_goals
              go_wp2_with fail
              rw [← HQ.out]
              exact ⟨by rw [HRS.out, HR.out]; rfl, rfl⟩
          · by_cases hvb : v < base
            · by_cases hov : base * n + v ≤ 9223372036854775807
              · have HV3 := Lib.hid (show numV base (ds.drop (k + 1)) (base * n + v) = numV base ds 0 by have := HV2.out; rw [if_pos ⟨hvb, hov⟩] at this; exact this)
                have hb0 : (0 : Int) < (base : Int) := by omega
                have hbz : ((base : Int) == 0) = false := by rw [beq_eq_false_iff_ne]; omega
                have hvi : (v : Int) < (base : Int) := by omega
                have hdiv : (n : Int) ≤ (9223372036854775807 - (v : Int)) / (base : Int) := by
                  rw [Int.le_ediv_iff_mul_le hb0]
                  have h1 : ((base * n + v : Nat) : Int) ≤ 9223372036854775807 := by omega
                  rw [Int.natCast_add, Int.natCast_mul, Int.mul_comm] at h1
                  omega
                go_wp2_with fail
                exact ⟨⟨k + 1, base * n + v, by go_num, by simp, by omega, hov, HV3⟩, by simp [intOf]; omega⟩
              · have HR := Lib.hid (HN.out (fun h => hov h.2))
                have hb0 : (0 : Int) < (base : Int) := by omega
                have hbz : ((base : Int) == 0) = false := by rw [beq_eq_false_iff_ne]; omega
                have hvi : (v : Int) < (base : Int) := by omega
                have hdiv : (9223372036854775807 - (v : Int)) / (base : Int) < (n : Int) := by
                  rw [← Int.not_le, Int.le_ediv_iff_mul_le hb0]
                  intro h2
                  apply hov
                  have h1 : ((base * n + v : Nat) : Int) ≤ 9223372036854775807 := by
                    rw [Int.natCast_add, Int.natCast_mul, Int.mul_comm]
                    omega
                  omega
                go_wp2_with fail
                rw [← HQ.out]
                exact ⟨by rw [HRS.out, HR.out]; rfl, rfl⟩
            · have HR := Lib.hid (HN.out (fun h => hvb h.1))
              have hvi : (base : Int) ≤ (v : Int) := by omega
              have hbz : ((base : Int) == 0) = false := by rw [beq_eq_false_iff_ne]; omega
              go_wp2_with fail
              rw [← HQ.out]
              exact ⟨by rw [HRS.out, HR.out]; rfl, rfl⟩
      · obtain rfl : k = ds.length := by omega
        have hv2 : some n = numV base ds 0 := by have := HV.out; rw [List.drop_length] at this; exact this
        have hem0 : (toB ds).toList = ds := by simp [toB, ByteArray.toList_eq]
        by_cases hds : ds = []
        · have HR := Lib.hid (show res = none by rw [HF.out, if_pos hds])
          have hn0 := Lib.hid (show n = 0 by rw [hds] at hv2; simpa [numV] using hv2)
          have hem : (toB ds).toList.isEmpty = true := by rw [hem0, hds]; rfl
          clear hv2 hem0 hds
          go_wp2_with fail
          rw [← HQ.out]
          exact ⟨by rw [HRS.out, HR.out, hn0.out]; rfl, rfl⟩
        · have HR := Lib.hid (show res = some n by rw [HF.out, if_neg hds, hv2])
          have hem : (toB ds).toList.isEmpty = false := by
            rw [hem0]
            cases ds with
            | nil => exact absurd rfl hds
            | cons a r => rfl
          clear hv2 hem0 hds
          go_wp2_with fail
          rw [← HQ.out]
          exact ⟨by rw [HRS.out, HR.out]; rfl, rfl⟩

end Go.Proofs.YtiigclkebnmopaaGreatDoor

namespace Go.Proofs.YtiigclkebnmopaaGreatDoor
open Go.RowKit Go.Shelf

mutual
/-- a value is an expression, whose lists lie in blocks of a kind -/
def ExV (P : Nat → Prop) (w : World) (v : Value) : Ex → Prop
  | .mk op n nm args => ∃ A c, v = .agg #[.string (toB op), .int .i64 (n : Int), .string (toB nm), .slice A args.length c] ∧ args.length ≤ c ∧ (0 < args.length → ∃ g off, A = some ⟨g, off, none⟩ ∧ P g ∧ g < w.heap.size ∧ ExL P w g off args)
def ExL (P : Nat → Prop) (w : World) (g off : Nat) : List Ex → Prop
  | [] => True
  | x :: r => (∃ v0 v1 v2 v3, w.cell? ⟨g, off, none⟩ = some v0 ∧ w.cell? ⟨g, off + 1, none⟩ = some v1 ∧ w.cell? ⟨g, off + 2, none⟩ = some v2 ∧ w.cell? ⟨g, off + 3, none⟩ = some v3 ∧ ExV P w (.agg #[v0, v1, v2, v3]) x) ∧ ExL P w g (off + 4) r
end
mutual
theorem ExV.keep {P Q : Nat → Prop} {w w' : World} (hs : w.heap.size ≤ w'.heap.size) (hk : ∀ g, P g → g < w.heap.size → w'.heap[g]? = w.heap[g]? ∧ Q g) : ∀ {v : Value} (x : Ex), ExV P w v x → ExV Q w' v x
  | v, .mk op n nm args, h => by
    unfold ExV at h ⊢
    obtain ⟨A, c, hv, hc, hl⟩ := h
    refine ⟨A, c, hv, hc, fun h0 => ?_⟩
    obtain ⟨g, off, hA, hP, hg, hL⟩ := hl h0
    exact ⟨g, off, hA, (hk g hP hg).2, Nat.lt_of_lt_of_le hg hs, ExL.keep hs hk (hk g hP hg).1 args hL⟩
theorem ExL.keep {P Q : Nat → Prop} {w w' : World} (hs : w.heap.size ≤ w'.heap.size) (hk : ∀ g, P g → g < w.heap.size → w'.heap[g]? = w.heap[g]? ∧ Q g) {g : Nat} (hg : w'.heap[g]? = w.heap[g]?) : ∀ {off : Nat} (l : List Ex), ExL P w g off l → ExL Q w' g off l
  | off, [], _ => by unfold ExL; trivial
  | off, x :: r, h => by
    unfold ExL at h ⊢
    obtain ⟨⟨v0, v1, v2, v3, h0, h1, h2, h3, hx⟩, hr⟩ := h
    exact ⟨⟨v0, v1, v2, v3, (World.cell?_of_block (a := ⟨g, off, none⟩) hg).trans h0, (World.cell?_of_block (a := ⟨g, off + 1, none⟩) hg).trans h1, (World.cell?_of_block (a := ⟨g, off + 2, none⟩) hg).trans h2, (World.cell?_of_block (a := ⟨g, off + 3, none⟩) hg).trans h3, ExV.keep hs hk x hx⟩, ExL.keep hs hk hg r hr⟩
end
/-- an expression without a list -/
theorem ExV.flat (P : Nat → Prop) (w : World) (op nm : List UInt8) (n : Int) : ExV P w (.agg #[.string (toB op), .int .i64 (n : Int), .string (toB nm), .slice none 0 0]) (.mk op n nm []) := by
  unfold ExV
  exact ⟨none, 0, rfl, Nat.le_refl _, fun h => absurd h (Nat.lt_irrefl _)⟩
/-- new blocks -/
def Nw (w : World) : Nat → Prop := fun g => w.heap.size ≤ g
/-- what a function that reads gives -/
def PG (b : Nat) (T : List UInt8) (o : Out) (w : World) (e : Ending) (w' : World) : Prop := match o with
  | .ok x l1 => ∃ v, e = .returned v ∧ ExV (Nw w) w' v x ∧ Rd w' b T l1 ∧ Only b w w'
  | .stuck l1 => e = pan (plc T l1) 1 ∧ Only b w w'
  | .bad l1 => e = pan (plc T l1) 1 ∧ Only b w w'
  | .more => e = pan T.length 27 ∧ Only b w w'
  | .none => False
theorem PG.more {b : Nat} {T : List UInt8} {w w' : World} (h : Only b w w') : PG b T .more w (pan T.length 27) w' := ⟨rfl, h⟩
theorem PG.bad {b : Nat} {T l : List UInt8} {w w' : World} (h : Only b w w') : PG b T (.bad l) w (pan (plc T l) 1) w' := ⟨rfl, h⟩
/-- four cells of a block of one's own -/
def Four (w : World) (x : Nat) (v0 v1 v2 v3 : Value) : Prop := w.heap[x]? = some (.cells #[v0, v1, v2, v3] 25 (0, 0))
theorem Four.lt {w : World} {x : Nat} {v0 v1 v2 v3 : Value} (h : Four w x v0 v1 v2 v3) : x < w.heap.size := (Array.getElem?_eq_some_iff.1 h).1
theorem Four.only {w w' : World} {x y : Nat} {v0 v1 v2 v3 : Value} (h : Four w x v0 v1 v2 v3) (ho : Only y w w') (hx : x ≠ y) : Four w' x v0 v1 v2 v3 := (ho.block x h.lt hx).trans h
theorem Four.keep {w w' : World} {x : Nat} {v0 v1 v2 v3 : Value} (h : Four w x v0 v1 v2 v3) (ho : Below w.heap.size w w') : Four w' x v0 v1 v2 v3 := (ho.block x h.lt).trans h
theorem Four.grown {w w' : World} {x B : Nat} {v0 v1 v2 v3 : Value} {row : Option Nat} (h : Four w x v0 v1 v2 v3) (hg : w.grownBy w' row) (hr : ∀ r, row = some r → B ≤ r) (hx : x < B) : Four w' x v0 v1 v2 v3 := (hg.block x h.lt (fun e => by have := hr x e.symm; omega)).trans h
theorem Four.cells {w : World} {x : Nat} {v0 v1 v2 v3 : Value} (h : Four w x v0 v1 v2 v3) : w.cell? ⟨x, 0, none⟩ = some v0 ∧ w.cell? ⟨x, 1, none⟩ = some v1 ∧ w.cell? ⟨x, 2, none⟩ = some v2 ∧ w.cell? ⟨x, 3, none⟩ = some v3 ∧ ∀ i, w.frozen? ⟨x, i, none⟩ = false := by
  unfold Four at h
  refine ⟨?_, ?_, ?_, ?_, ?_⟩
  all_goals first | simp [World.cell?, h] | simp [World.frozen?, h]
theorem Four.new (w : World) (v0 v1 v2 v3 : Value) : Four (w.alloc (.cells #[v0, v1, v2, v3] 25)) w.heap.size v0 v1 v2 v3 := heap_alloc_new w _

/-- four stores into one block -/
def set4 (w : World) (x : Nat) (a b c d : Value) : World := (((w.setCell ⟨x, 0, none⟩ a).setCell ⟨x, 1, none⟩ b).setCell ⟨x, 2, none⟩ c).setCell ⟨x, 3, none⟩ d
theorem Four.set {w : World} {x : Nat} {v0 v1 v2 v3 : Value} (h : Four w x v0 v1 v2 v3) (a b c d : Value) : Four (set4 w x a b c d) x a b c d := by
  unfold Four at h ⊢
  unfold set4
  rw [heap_setCell_same _ _ _ _ _ _ (heap_setCell_same _ _ _ _ _ _ (heap_setCell_same _ _ _ _ _ _ (heap_setCell_same _ _ _ _ _ _ h)))]
  rfl
theorem Only.set4 (w : World) (x : Nat) (a b c d : Value) : Only x w (set4 w x a b c d) := ((((Only.refl x w).setCell a).setCell b).setCell c).setCell d
set_option maxRecDepth 100000 in
set_option maxHeartbeats 3200000 in
theorem numeral_any (b : Nat) (T g : List UInt8) (w : World) (h : Rd w b T g) (hg : skipJ g = g) (hlen : g.length ≤ 32768) :
    Calls Tryz.prog 226 #[.pointer (some ⟨b, 0, none⟩), .int .i64 (plc T g)] w (PG b T (numeral g) w) := by
  obtain ⟨i1, hi1, hy0, hy1, hy2⟩ := info_parts byteInfo
  have HPk := Lib.hid (fun l' W hW => peek_any b T l' W hW)
  have HNx := Lib.hid (fun l' c r W hW hl => next_any b T l' c r W hW hl)
  have hlt := h.lt
  have ba := (Below.refl w.heap.size w).alloc (Nat.le_refl _) (.cells #[.string ⟨#[]⟩, .int .i64 0, .string ⟨#[]⟩, .slice none 0 0] 25)
  have HR := Lib.hid (h.keep ba)
  have HO := Lib.hid (Only.of (b := b) ba (Nat.le_refl _))
  have H4 := Lib.hid (Four.new w (.string ⟨#[]⟩) (.int .i64 0) (.string ⟨#[]⟩) (.slice none 0 0))
  obtain ⟨Q, hQ⟩ : ∃ Q, PG b T (numeral g) w = Q := ⟨_, rfl⟩
  rw [hQ]
  have HQ := Lib.hid hQ
  have HG := Lib.hid hg
  have HLn := Lib.hid (show (run isW g).1.length ≤ 32768 by have := run_len isW g; omega)
  obtain ⟨pl, hpl⟩ : ∃ pl, plc T g = pl := ⟨_, rfl⟩
  have HPL := Lib.hid hpl
  rw [hpl]
  clear h hQ hg ba hpl
  go_enter Tryz.func226, Tryz.ntmps226
  -- the loop
  have HB0 : Hid (w.heap.size ≤ (w.alloc (.cells #[.string ⟨#[]⟩, .int .i64 0, .string ⟨#[]⟩, .slice none 0 0] 25)).heap.size) := Lib.hid HO.out.size
  have hbxB : w.heap.size < (w.alloc (.cells #[.string ⟨#[]⟩, .int .i64 0, .string ⟨#[]⟩, .slice none 0 0] 25)).heap.size := H4.out.lt
  have hbx : w.heap.size ≠ b := by omega
  go_wp2_with fail
  generalize w.alloc (.cells #[.string ⟨#[]⟩, .int .i64 0, .string ⟨#[]⟩, .slice none 0 0] 25) = w1 at *
  have hltB : b < w1.heap.size := Nat.lt_of_lt_of_le hlt HB0.out
  obtain ⟨bx, hbxe⟩ : ∃ bx, w.heap.size = bx := ⟨_, rfl⟩
  have HBx := Lib.hid (show w.heap.size ≤ bx by omega)
  refine (HPk.out g _ HR.out).mono ?_
  rintro e w2 ⟨rfl, hr2, ho2⟩
  rw [HG.out] at hr2 ⊢
  have HR2 := Lib.hid hr2
  have HO2 := Lib.hid ho2
  have F2 := Lib.hid (H4.out.only ho2 hbx)
  clear hr2 ho2 HR H4
  rw [hbxe] at hbxB hbx F2
  simp only [hbxe]
  clear hbxe
  go_wp2_with fail
  go_loopw [5, 6] (fun s5 s6 wr => ∃ (v : Value) (acc l1 : List UInt8), v = s5 ∧ s6 = .int .i64 (headI l1) ∧ Hid (skipJ l1 = l1) ∧ Hid (Rd wr b T l1) ∧ Hid (wr.ownsRow w1.heap.size 5 1 v acc.length (bytesV acc)) ∧ Hid (acc ++ (run isW l1).1 = (run isW g).1) ∧ Hid ((run isW l1).2 = (run isW g).2) ∧ Hid (Four wr bx (.string ⟨#[]⟩) (.int .i64 0) (.string ⟨#[]⟩) (.slice none 0 0)) ∧ Hid (Only b w1 wr)) (fun _ _ wr => T.length - posOf wr b)
  case atStart => exact ⟨_, [], g, rfl, rfl, HG, HR2, Lib.hid (World.ownsRow_nil _ _ _ _), Lib.hid rfl, Lib.hid rfl, F2, HO2⟩
  case round =>
    clear HR2 HO2 F2 HG
    obtain ⟨v, acc, l1, rfl, rfl, HL1, HR1, HV, HA1, HA2, F1, HO1⟩ := hrel
    obtain ⟨A0, cp0, hv0⟩ := own_form HV.out
    subst hv0
    cases l1 with
    | nil =>
      have hL := Lib.hid (show isLB (headI []) = false from rfl)
      have hD := Lib.hid (show isDB (headI []) = false from rfl)
      have HA1c := Lib.hid (show acc = (run isW g).1 by have h := HA1.out; simpa [run] using h)
      have HA2c := Lib.hid (show [] = (run isW g).2 by have h := HA2.out; simpa [run] using h)
      go_wp2_with fail
      refine (isDigit_any _ _).mono ?_
      rintro e w3 ⟨rfl, rfl⟩
      rw [hD.out]
      go_wp2_with fail
      refine (isLetter_any _ _).mono ?_
      rintro e w3 ⟨rfl, rfl⟩
      rw [hL.out]
      have HV8 := Lib.hid (show wr.ownsRow w1.heap.size 5 1 (.slice A0 acc.length cp0) acc.length (bytesV (run isW g).1) by rw [← HA1c.out]; exact HV.out)
      have hlr : (run isW g).1.length = acc.length := by rw [← HA1c.out]
      have hlg : (run isW g).1.length ≤ 32768 := HLn.out
      have HRw := Lib.hid (show Rd wr b T (run isW g).2 by rw [← HA2c.out]; exact HR1.out)
      have hcv := row_string HV8.out
      clear hlr hlt HV HR1
      go_wp2_with fail
      refine (numberOf_any (run isW g).1 _ hlg).mono ?_
      rintro e w5 ⟨rfl, hw5⟩
      subst hw5
      obtain ⟨k0, k1, k2, k3, kf⟩ := F1.out.cells
      cases hn : numOf (run isW g).1 with
      | none =>
        have HN0 := Lib.hid hn
        clear hn k0 k1 k2 k3 kf
        go_wp2_with fail
        refine (fail_any _ _ _).mono ?_
        rintro e w6 ⟨rfl, rfl⟩
        unfold pan
        go_wp2_with fail
        rw [← HQ.out]
        unfold numeral
        rw [HN0.out]
        exact ⟨rfl, (show PG b T (.bad g) w (pan pl 1) _ from ⟨by rw [HPL.out], HO.out.trans HO1.out⟩)⟩
      | some n =>
        have HN0 := Lib.hid hn
        clear hn
        go_wp2_with fail
        have F5 := Lib.hid (F1.out.set (.string ⟨#[110]⟩) (.int .i64 (n : Int)) (.string ⟨#[]⟩) (.slice none 0 0))
        have O5 := Lib.hid (Only.set4 wr bx (.string ⟨#[110]⟩) (.int .i64 (n : Int)) (.string ⟨#[]⟩) (.slice none 0 0))
        have R5 := Lib.hid (HRw.out.only O5.out (fun e => hbx e.symm))
        have G5 := Lib.hid ((HO.out.trans HO1.out).new O5.out HBx.out)
        obtain ⟨q0, q1, q2, q3, qf⟩ := F5.out.cells
        unfold set4 at q0 q1 q2 q3
        refine bodyPost_ret (v := .agg #[.string ⟨#[110]⟩, .int .i64 (n : Int), .string ⟨#[]⟩, .slice none 0 0]) (by simp [results, Tryz.results226, go_sem, q0, q1, q2, q3]) rfl ?_
        rw [← HQ.out]
        unfold numeral
        rw [HN0.out]
        exact ⟨_, rfl, ExV.flat _ _ [110] [] n, R5.out, G5.out⟩
    | cons c r =>
      have HPos := Lib.hid HR1.out.pos
      cases hw : isW c with
      | false =>
        have hr := run_cons (q := isW) HL1.out
        rw [hw] at hr
        have hLf : isL c = false := by unfold isW at hw; simp at hw; exact hw.1
        have hDf : isD c = false := by unfold isW at hw; simp at hw; exact hw.2
        have hL := Lib.hid (show isLB (headI (c :: r)) = false from (isLB_u8 c).trans hLf)
        have hD := Lib.hid (show isDB (headI (c :: r)) = false from (isDB_u8 c).trans hDf)
        have HA1c := Lib.hid (show acc = (run isW g).1 by have h := HA1.out; rw [hr] at h; simpa using h)
        have HA2c := Lib.hid (show c :: r = (run isW g).2 by have h := HA2.out; rw [hr] at h; simpa using h)
        clear hr hw hLf hDf
        go_wp2_with fail
        refine (isDigit_any _ _).mono ?_
        rintro e w3 ⟨rfl, rfl⟩
        rw [hD.out]
        go_wp2_with fail
        refine (isLetter_any _ _).mono ?_
        rintro e w3 ⟨rfl, rfl⟩
        rw [hL.out]
        have HV8 := Lib.hid (show wr.ownsRow w1.heap.size 5 1 (.slice A0 acc.length cp0) acc.length (bytesV (run isW g).1) by rw [← HA1c.out]; exact HV.out)
        have hlr : (run isW g).1.length = acc.length := by rw [← HA1c.out]
        have hlg : (run isW g).1.length ≤ 32768 := HLn.out
        have HRw := Lib.hid (show Rd wr b T (run isW g).2 by rw [← HA2c.out]; exact HR1.out)
        have hcv := row_string HV8.out
        clear hlr hlt HV HR1
        go_wp2_with fail
        refine (numberOf_any (run isW g).1 _ hlg).mono ?_
        rintro e w5 ⟨rfl, hw5⟩
        subst hw5
        obtain ⟨k0, k1, k2, k3, kf⟩ := F1.out.cells
        cases hn : numOf (run isW g).1 with
        | none =>
          have HN0 := Lib.hid hn
          clear hn k0 k1 k2 k3 kf
          go_wp2_with fail
          refine (fail_any _ _ _).mono ?_
          rintro e w6 ⟨rfl, rfl⟩
          unfold pan
          go_wp2_with fail
          rw [← HQ.out]
          unfold numeral
          rw [HN0.out]
          exact ⟨rfl, (show PG b T (.bad g) w (pan pl 1) _ from ⟨by rw [HPL.out], HO.out.trans HO1.out⟩)⟩
        | some n =>
          have HN0 := Lib.hid hn
          clear hn
          go_wp2_with fail
          have F5 := Lib.hid (F1.out.set (.string ⟨#[110]⟩) (.int .i64 (n : Int)) (.string ⟨#[]⟩) (.slice none 0 0))
          have O5 := Lib.hid (Only.set4 wr bx (.string ⟨#[110]⟩) (.int .i64 (n : Int)) (.string ⟨#[]⟩) (.slice none 0 0))
          have R5 := Lib.hid (HRw.out.only O5.out (fun e => hbx e.symm))
          have G5 := Lib.hid ((HO.out.trans HO1.out).new O5.out HBx.out)
          obtain ⟨q0, q1, q2, q3, qf⟩ := F5.out.cells
          unfold set4 at q0 q1 q2 q3
          refine bodyPost_ret (v := .agg #[.string ⟨#[110]⟩, .int .i64 (n : Int), .string ⟨#[]⟩, .slice none 0 0]) (by simp [results, Tryz.results226, go_sem, q0, q1, q2, q3]) rfl ?_
          rw [← HQ.out]
          unfold numeral
          rw [HN0.out]
          exact ⟨_, rfl, ExV.flat _ _ [110] [] n, R5.out, G5.out⟩
      | true =>
        have hr := run_cons (q := isW) HL1.out
        rw [hw, if_pos rfl] at hr
        have HA1c := Lib.hid (show acc ++ ([c] ++ (run isW r).1) = (run isW g).1 by have h := HA1.out; rw [hr] at h; exact h)
        have HA2c := Lib.hid (show (run isW r).2 = (run isW g).2 by have h := HA2.out; rw [hr] at h; exact h)
        have hal : acc.length ≤ 32768 := by have h := HLn.out; rw [← HA1c.out] at h; simp at h; omega
        cases hDc : isD c with
        | true =>
          have hD := Lib.hid (show isDB (headI (c :: r)) = true from (isDB_u8 c).trans hDc)
          clear hr hw hDc
          go_wp2_with fail
          refine (isDigit_any _ _).mono ?_
          rintro e w3 ⟨rfl, rfl⟩
          rw [hD.out]
          go_wp2_with fail
          refine (HNx.out (c :: r) c r _ HR1.out HL1.out).mono ?_
          rintro e w4 ⟨rfl, hr4, ho4⟩
          have HR4 := Lib.hid hr4
          have HO4 := Lib.hid (HO1.out.trans ho4)
          have HV4 := Lib.hid (own_only HV.out ho4 hltB)
          have F4 := Lib.hid (F1.out.only ho4 hbx)
          have HVa := Lib.hid (HV4.out.alloc (.cells #[.int .u8 (c.toNat : Int)] 5))
          have HN := Lib.hid (new_one w4 (.int .u8 (c.toNat : Int)) 5)
          have hba := (Below.refl w4.heap.size w4).alloc (Nat.le_refl _) (.cells #[.int .u8 (c.toNat : Int)] 5)
          have HRa := Lib.hid (HR4.out.keep hba)
          have HOa := Lib.hid (HO4.out.trans (Only.of (b := b) hba (Nat.le_refl _)))
          have Fa := Lib.hid (F4.out.keep hba)
          clear hr4 ho4 hba
          have hzz := HO4.out.size
          go_wp2_with (at_builtin; refine wpList_append_own _ rfl _ _ 82 rfl (w1.heap.size) 5 i1 (.int .u8 0) 1 1 Tryz.underlying82 hi1 hy0 hy1 hy2 rfl (by decide) (.slice A0 acc.length cp0) acc.length _ rfl HVa.out ⟨w4.heap.size, 0, none⟩ 1 1 [.int .u8 (c.toNat : Int)] rfl rfl HN.out (fun z hz => by simp at hz; subst hz; rfl) ?c3 ?c4 ?c5 ?_)
          case c3 => unfold maxLen; omega
          case c4 => omega
          case c5 => simp; omega
          intro v6 w6 hown6 hg6 _
          have hgr : ∀ q, (Value.slice A0 acc.length cp0).ownBlock = some q → w1.heap.size ≤ q := fun q hq => (HVa.out.lt q hq).1
          have HR6 := Lib.hid (HRa.out.grown hg6 hgr hltB)
          have HO6 := Lib.hid (HOa.out.grown hg6 hgr)
          have HV6 : Hid (w6.ownsRow (w1.heap.size) 5 1 v6 (acc ++ [c]).length (bytesV (acc ++ [c]))) := Lib.hid (by
            rw [← bytes_snoc, List.length_append]
            exact hown6)
          have F6 := Lib.hid (Fa.out.grown hg6 hgr hbxB)
          clear hown6 hg6 hgr hzz HV HR1 HO1 HVa HN HRa HOa HR4 HO4 HV4
          go_wp2_with fail
          refine (HPk.out r _ HR6.out).mono ?_
          rintro e w7 ⟨rfl, hr7, ho7⟩
          have HR7 := Lib.hid hr7
          have HO7 := Lib.hid (HO6.out.trans ho7)
          have HV7 := Lib.hid (own_only HV6.out ho7 hltB)
          have F7 := Lib.hid (F6.out.only ho7 hbx)
          clear hr7 ho7
          go_wp2_with fail
          refine ⟨⟨v6, acc ++ [c], skipJ r, rfl, rfl, Lib.hid (skipJ_skipJ r), HR7, HV7, Lib.hid (by rw [run_skipJ, List.append_assoc]; exact HA1c.out), Lib.hid (by rw [run_skipJ]; exact HA2c.out), F7, HO7⟩, ?_⟩
          have h1 := HPos.out
          have h2 := HR7.out.pos
          have h3 := skipJ_len r
          have h4 : (c :: r).length = r.length + 1 := rfl
          show T.length - posOf _ b < _
          omega
        | false =>
          have hLt : isL c = true := by unfold isW at hw; rw [hDc] at hw; simpa using hw
          have hL := Lib.hid (show isLB (headI (c :: r)) = true from (isLB_u8 c).trans hLt)
          have hD := Lib.hid (show isDB (headI (c :: r)) = false from (isDB_u8 c).trans hDc)
          clear hr hw hLt hDc
          go_wp2_with fail
          refine (isDigit_any _ _).mono ?_
          rintro e w3 ⟨rfl, rfl⟩
          rw [hD.out]
          go_wp2_with fail
          refine (isLetter_any _ _).mono ?_
          rintro e w3 ⟨rfl, rfl⟩
          rw [hL.out]
          go_wp2_with fail
          refine (HNx.out (c :: r) c r _ HR1.out HL1.out).mono ?_
          rintro e w4 ⟨rfl, hr4, ho4⟩
          have HR4 := Lib.hid hr4
          have HO4 := Lib.hid (HO1.out.trans ho4)
          have HV4 := Lib.hid (own_only HV.out ho4 hltB)
          have F4 := Lib.hid (F1.out.only ho4 hbx)
          have HVa := Lib.hid (HV4.out.alloc (.cells #[.int .u8 (c.toNat : Int)] 5))
          have HN := Lib.hid (new_one w4 (.int .u8 (c.toNat : Int)) 5)
          have hba := (Below.refl w4.heap.size w4).alloc (Nat.le_refl _) (.cells #[.int .u8 (c.toNat : Int)] 5)
          have HRa := Lib.hid (HR4.out.keep hba)
          have HOa := Lib.hid (HO4.out.trans (Only.of (b := b) hba (Nat.le_refl _)))
          have Fa := Lib.hid (F4.out.keep hba)
          clear hr4 ho4 hba
          have hzz := HO4.out.size
          go_wp2_with (at_builtin; refine wpList_append_own _ rfl _ _ 82 rfl (w1.heap.size) 5 i1 (.int .u8 0) 1 1 Tryz.underlying82 hi1 hy0 hy1 hy2 rfl (by decide) (.slice A0 acc.length cp0) acc.length _ rfl HVa.out ⟨w4.heap.size, 0, none⟩ 1 1 [.int .u8 (c.toNat : Int)] rfl rfl HN.out (fun z hz => by simp at hz; subst hz; rfl) ?c3 ?c4 ?c5 ?_)
          case c3 => unfold maxLen; omega
          case c4 => omega
          case c5 => simp; omega
          intro v6 w6 hown6 hg6 _
          have hgr : ∀ q, (Value.slice A0 acc.length cp0).ownBlock = some q → w1.heap.size ≤ q := fun q hq => (HVa.out.lt q hq).1
          have HR6 := Lib.hid (HRa.out.grown hg6 hgr hltB)
          have HO6 := Lib.hid (HOa.out.grown hg6 hgr)
          have HV6 : Hid (w6.ownsRow (w1.heap.size) 5 1 v6 (acc ++ [c]).length (bytesV (acc ++ [c]))) := Lib.hid (by
            rw [← bytes_snoc, List.length_append]
            exact hown6)
          have F6 := Lib.hid (Fa.out.grown hg6 hgr hbxB)
          clear hown6 hg6 hgr hzz HV HR1 HO1 HVa HN HRa HOa HR4 HO4 HV4
          go_wp2_with fail
          refine (HPk.out r _ HR6.out).mono ?_
          rintro e w7 ⟨rfl, hr7, ho7⟩
          have HR7 := Lib.hid hr7
          have HO7 := Lib.hid (HO6.out.trans ho7)
          have HV7 := Lib.hid (own_only HV6.out ho7 hltB)
          have F7 := Lib.hid (F6.out.only ho7 hbx)
          clear hr7 ho7
          go_wp2_with fail
          refine ⟨⟨v6, acc ++ [c], skipJ r, rfl, rfl, Lib.hid (skipJ_skipJ r), HR7, HV7, Lib.hid (by rw [run_skipJ, List.append_assoc]; exact HA1c.out), Lib.hid (by rw [run_skipJ]; exact HA2c.out), F7, HO7⟩, ?_⟩
          have h1 := HPos.out
          have h2 := HR7.out.pos
          have h3 := skipJ_len r
          have h4 : (c :: r).length = r.length + 1 := rfl
          show T.length - posOf _ b < _
          omega

end Go.Proofs.YtiigclkebnmopaaGreatDoor

namespace Go.Proofs.YtiigclkebnmopaaGreatDoor
open Go.RowKit Go.Shelf

theorem isNm_long {c : UInt8} {r : List UInt8} (h : ¬ (c :: r).length ≤ 64) : isNm (c :: r) = false := by
  simp only [isNm]
  rw [decide_eq_false h]
  rfl
theorem isNm_let {c : UInt8} {r : List UInt8} (h : (c :: r).length ≤ 64) (hL : isL c = true) : isNm (c :: r) = (c :: r).all isW := by
  simp only [isNm, List.all_cons]
  rw [decide_eq_true h, hL, show isW c = true by unfold isW; rw [hL]; rfl]
  rfl
def IsNameGives (s : List UInt8) (w : World) (e : Ending) (w' : World) : Prop := e = .returned (.bool (isNm s)) ∧ w = w'
set_option maxRecDepth 100000 in
set_option maxHeartbeats 1600000 in
theorem isName_any (s : List UInt8) (w : World) : Calls Tryz.prog 86 #[.string (toB s)] w (IsNameGives s w) := by
  obtain ⟨Q, hQ⟩ : ∃ Q, IsNameGives s w = Q := ⟨_, rfl⟩
  rw [hQ]
  have HQ := Lib.hid hQ
  clear hQ
  have hsz := toB_size s
  have hem : (toB s).toList = s := by simp [toB, ByteArray.toList_eq]
  cases s with
  | nil =>
    have he : (toB []).toList.isEmpty = true := by rw [hem]; rfl
    clear hem
    go_enter Tryz.func86, Tryz.ntmps86
    go_wp2_with fail
    rw [← HQ.out]
    exact ⟨rfl, rfl⟩
  | cons c r =>
    have he : (toB (c :: r)).toList.isEmpty = false := by rw [hem]; rfl
    clear hem
    obtain ⟨s, hs0⟩ : ∃ s, c :: r = s := ⟨_, rfl⟩
    have hne : 0 < s.length := by rw [← hs0]; simp
    have hat0 : ∀ h : 0 < (toB s).size, (toB s)[0]'h = c := fun h => by rw [toB_get]; subst hs0; rfl
    have HS0 := Lib.hid hs0
    rw [hs0] at hsz he HQ
    rw [hs0]
    clear hs0
    have h0 : 0 < (toB s).size := by omega
    have hat := hat0 h0
    clear hat0
    have hc := c.toNat_lt
    by_cases hl : s.length ≤ 64
    · cases hL : isL c with
      | false =>
        have hN := Lib.hid (show isNm s = false by rw [← HS0.out]; simp [isNm, hL])
        have hLB := Lib.hid (show isLB (c.toNat : Int) = false from (isLB_u8 c).trans hL)
        clear hL
        go_enter Tryz.func86, Tryz.ntmps86
        go_wp2_with fail
        refine (isLetter_any _ _).mono ?_
        rintro e w3 ⟨rfl, rfl⟩
        rw [hLB.out]
        go_wp2_with fail
        rw [← HQ.out]
        exact ⟨by rw [hN.out]; rfl, rfl⟩
      | true =>
        have hN := Lib.hid (show isNm s = s.all isW by rw [← HS0.out] at hl ⊢; exact isNm_let hl hL)
        have hLB := Lib.hid (show isLB (c.toNat : Int) = true from (isLB_u8 c).trans hL)
        clear hL
        go_enter Tryz.func86, Tryz.ntmps86
        go_wp2_with fail
        refine (isLetter_any _ _).mono ?_
        rintro e w3 ⟨rfl, rfl⟩
        rw [hLB.out]
        clear hat hc
        go_wp2_with fail
        go_loop [20] (fun s20 => ∃ k : Nat, s20 = .int .i64 (k : Int) ∧ k ≤ s.length ∧ Hid ((s.take k).all isW = true)) (fun s20 => s.length - (intOf s20).toNat)
        case atStart => exact ⟨0, rfl, Nat.zero_le _, Lib.hid rfl⟩
        case round =>
          obtain ⟨k, rfl, hk, HK⟩ := hrel
          by_cases hlt : k < s.length
          · have hb2 : k < (toB s).size := by omega
            have hg := toB_get s k hb2
            have htk := Lib.hid (List.take_succ_eq_append_getElem hlt)
            have hmem := Lib.hid (List.getElem_mem hlt)
            generalize s[k] = a at *
            have ha := a.toNat_lt
            cases hLa : isL a with
            | true =>
              have hLBa := Lib.hid (show isLB (a.toNat : Int) = true from (isLB_u8 a).trans hLa)
              have HK2 := Lib.hid (show (s.take (k + 1)).all isW = true by rw [htk.out, List.all_append, HK.out]; simp [isW, hLa])
              clear hLa
              go_wp2_with fail
              refine (isLetter_any _ _).mono ?_
              rintro e w3 ⟨rfl, rfl⟩
              rw [hLBa.out]
              go_wp2_with fail
              exact ⟨⟨k + 1, by go_num, by omega, HK2⟩, by simp [intOf]; omega⟩
            | false =>
              have hLBa := Lib.hid (show isLB (a.toNat : Int) = false from (isLB_u8 a).trans hLa)
              cases hDa : isD a with
              | true =>
                have hDBa := Lib.hid (show isDB (a.toNat : Int) = true from (isDB_u8 a).trans hDa)
                have HK2 := Lib.hid (show (s.take (k + 1)).all isW = true by rw [htk.out, List.all_append, HK.out]; simp [isW, hDa])
                clear hLa hDa
                go_wp2_with fail
                refine (isLetter_any _ _).mono ?_
                rintro e w3 ⟨rfl, rfl⟩
                rw [hLBa.out]
                go_wp2_with fail
                refine (isDigit_any _ _).mono ?_
                rintro e w3 ⟨rfl, rfl⟩
                rw [hDBa.out]
                go_wp2_with fail
                exact ⟨⟨k + 1, by go_num, by omega, HK2⟩, by simp [intOf]; omega⟩
              | false =>
                have hDBa := Lib.hid (show isDB (a.toNat : Int) = false from (isDB_u8 a).trans hDa)
                have HA := Lib.hid (show s.all isW = false by
                  rw [List.all_eq_false]
                  exact ⟨a, hmem.out, by simp [isW, hLa, hDa]⟩)
                clear hLa hDa
                go_wp2_with fail
                refine (isLetter_any _ _).mono ?_
                rintro e w3 ⟨rfl, rfl⟩
                rw [hLBa.out]
                go_wp2_with fail
                refine (isDigit_any _ _).mono ?_
                rintro e w3 ⟨rfl, rfl⟩
                rw [hDBa.out]
                go_wp2_with fail
                rw [← HQ.out]
                exact ⟨by rw [hN.out, HA.out] <;> rfl, rfl⟩
          · obtain rfl : k = s.length := by omega
            have HA := Lib.hid (show s.all isW = true by have := HK.out; rwa [List.take_length] at this)
            go_wp2_with fail
            rw [← HQ.out]
            exact ⟨by rw [hN.out, HA.out] <;> rfl, rfl⟩
    · have hN := Lib.hid (show isNm s = false by rw [← HS0.out] at hl ⊢; exact isNm_long hl)
      have hl2 : (64 : Int) < (s.length : Int) := by omega
      go_enter Tryz.func86, Tryz.ntmps86
      go_wp2_with fail
      rw [← HQ.out]
      exact ⟨by rw [hN.out]; rfl, rfl⟩
def IsTargetGives (op nm : List UInt8) (w : World) (e : Ending) (w' : World) : Prop := e = .returned (.bool (op == [101] || op == [118] && isNm nm)) ∧ Below w.heap.size w w'
set_option maxRecDepth 100000 in
set_option maxHeartbeats 1600000 in
theorem isTarget_any (op nm : List UInt8) (n : Int) (A : Option Addr) (k c : Nat) (w : World) :
    Calls Tryz.prog 100 #[.agg #[.string (toB op), .int .i64 n, .string (toB nm), .slice A k c]] w (IsTargetGives op nm w) := by
  obtain ⟨Q, hQ⟩ : ∃ Q, IsTargetGives op nm w = Q := ⟨_, rfl⟩
  rw [hQ]
  have HQ := Lib.hid hQ
  clear hQ
  have HB := Lib.hid ((Below.refl w.heap.size w).alloc (Nat.le_refl _) (.cells #[.string (toB op), .int .i64 n, .string (toB nm), .slice A k c] 25))
  have F1 := Lib.hid (Four.new w (.string (toB op)) (.int .i64 n) (.string (toB nm)) (.slice A k c))
  have hem : (toB op).toList = op := by simp [toB, ByteArray.toList_eq]
  by_cases h1 : op = [101]
  · have he1 : ((toB op).toList == [101]) = true := by rw [hem, h1]; rfl
    have HR := Lib.hid (show (op == [101] || op == [118] && isNm nm) = true by rw [h1]; rfl)
    clear hem h1
    go_enter Tryz.func100, Tryz.ntmps100
    go_wp2_with fail
    rw [← HQ.out]
    exact ⟨by rw [HR.out]; rfl, HB.out⟩
  · have he1 : ((toB op).toList == [101]) = false := by rw [hem, beq_eq_false_iff_ne]; exact h1
    by_cases h2 : op = [118]
    · have he2 : ((toB op).toList == [118]) = true := by rw [hem, h2]; rfl
      have HR := Lib.hid (show (op == [101] || op == [118] && isNm nm) = isNm nm by rw [h2]; rfl)
      clear hem h1 h2
      go_enter Tryz.func100, Tryz.ntmps100
      go_wp2_with fail
      refine (isName_any nm _).mono ?_
      rintro e w3 ⟨rfl, rfl⟩
      obtain ⟨q, hx⟩ : ∃ q, isNm nm = q := ⟨_, rfl⟩
      have HX := Lib.hid hx
      rw [hx]
      clear hx
      cases q
      all_goals
        go_wp2_with fail
        rw [← HQ.out]
        exact ⟨by rw [HR.out, HX.out] <;> rfl, HB.out⟩
    · have he2 : ((toB op).toList == [118]) = false := by rw [hem, beq_eq_false_iff_ne]; exact h2
      have HR := Lib.hid (show (op == [101] || op == [118] && isNm nm) = false by simp [h1, h2])
      clear hem h1 h2
      go_enter Tryz.func100, Tryz.ntmps100
      go_wp2_with fail
      rw [← HQ.out]
      exact ⟨by rw [HR.out]; rfl, HB.out⟩

end Go.Proofs.YtiigclkebnmopaaGreatDoor
