/- Arithmetic expressions: the number of an argument. (Printed by tools/gpos.py.) -/
import Derived.Test.YtiigclkebnmopaaGreatDoorArNum
namespace Go.Proofs.YtiigclkebnmopaaGreatDoor
open Go.RowKit Go.Shelf

theorem own_first {w : World} {B n : Nat} {v : Value} {a : UInt8} {t : List UInt8} (h : w.ownsRow B 5 1 v n (bytesV (a :: t))) : ∃ g cap, v = .slice (some ⟨g, 0, none⟩) n cap ∧ w.cell? ⟨g, 0, none⟩ = some (.int .u8 (a.toNat : Int)) := by
  have hn : (bytesV (a :: t)).length = n * 1 := h.1
  rcases h.2 with ⟨_, h0⟩ | ⟨g, cap, cur, hv, _⟩
  · subst h0
    simp [bytesV] at hn
  · exact ⟨g, cap, hv, h.cells (g := g) (by rw [hv]; rfl) 0 _ (by simp [bytesV])⟩
/-- the number, if it is one -/
def posS (s : List UInt8) : List UInt8 := if posOk s = true then s else []
def PosGives (b : Nat) (T l : List UInt8) (w : World) (e : Ending) (w' : World) : Prop := e = .returned (.string (toB (posS (run isD l).1))) ∧ Rd w' b T (run isD l).2 ∧ Only b w w'
set_option maxRecDepth 100000 in
set_option maxHeartbeats 3200000 in
theorem position_any (b : Nat) (T l : List UInt8) (w : World) (h : Rd w b T l) (hlen : l.length ≤ 32768) (hst : (run isD l).1 ≠ []) :
    Calls Tryz.prog 237 #[.pointer (some ⟨b, 0, none⟩)] w (PosGives b T l w) := by
  obtain ⟨i1, hi1, hy0, hy1, hy2⟩ := info_parts byteInfo
  have HPk := Lib.hid (fun l' W hW => peek_any b T l' W hW)
  have HNx := Lib.hid (fun l' c r W hW hl => next_any b T l' c r W hW hl)
  have HR2 := Lib.hid h
  have hltB := h.lt
  obtain ⟨w1, hw1⟩ : ∃ w1, w = w1 := ⟨_, rfl⟩
  subst hw1
  obtain ⟨Q, hQ⟩ : ∃ Q, PosGives b T l w = Q := ⟨_, rfl⟩
  rw [hQ]
  have HQ := Lib.hid hQ
  have HLn := Lib.hid (show (run isD l).1.length ≤ 32768 by have := run_len isD l; omega)
  have HNe := Lib.hid hst
  clear h hQ hst
  go_enter Tryz.func237, Tryz.ntmps237
  go_wp2_with fail
  go_loopw [3] (fun s3 wr => ∃ (v : Value) (acc l1 : List UInt8), v = s3 ∧ Hid (Rd wr b T l1) ∧ Hid (wr.ownsRow w.heap.size 5 1 v acc.length (bytesV acc)) ∧ Hid (acc ++ (run isD l1).1 = (run isD l).1) ∧ Hid ((run isD l1).2 = (run isD l).2) ∧ Hid (Only b w wr)) (fun _ wr => T.length - posOf wr b)
  case atStart => exact ⟨_, [], l, rfl, HR2, Lib.hid (World.ownsRow_nil _ _ _ _), Lib.hid rfl, Lib.hid rfl, Lib.hid (Only.refl b w)⟩
  case round =>
    clear HR2
    obtain ⟨v, acc, l0, rfl, HR0, HV0, HA1, HA2, HO0⟩ := hrel
    have HPos := Lib.hid HR0.out.pos
    obtain ⟨A0, cp0, hv0⟩ := own_form HV0.out
    subst hv0
    obtain ⟨l1, hl1⟩ : ∃ l1, skipJ l0 = l1 := ⟨_, rfl⟩
    have HL1 : Hid (skipJ l1 = l1) := Lib.hid (by rw [← hl1]; exact skipJ_skipJ l0)
    have HLe := Lib.hid (show l1.length ≤ l0.length by rw [← hl1]; exact skipJ_len l0)
    have HA1 : Hid (acc ++ (run isD l1).1 = (run isD l).1) := Lib.hid (by rw [← hl1, run_skipJ]; exact HA1.out)
    have HA2 : Hid ((run isD l1).2 = (run isD l).2) := Lib.hid (by rw [← hl1, run_skipJ]; exact HA2.out)
    have HLL := Lib.hid hl1
    clear hl1
    go_wp2_with fail
    refine (HPk.out l0 _ HR0.out).mono ?_
    rintro e w2 ⟨rfl, hr2, ho2⟩
    rw [HLL.out] at hr2 ⊢
    have HR1 := Lib.hid hr2
    have HO1 := Lib.hid (HO0.out.trans ho2)
    have HV := Lib.hid (own_only HV0.out ho2 hltB)
    clear hr2 ho2 HR0 HO0 HV0 HLL
    cases l1 with
    | nil =>
      have hD := Lib.hid (show isDB (headI []) = false from rfl)
      have HA1c := Lib.hid (show acc = (run isD l).1 by have h := HA1.out; simpa [run] using h)
      have HA2c := Lib.hid (show [] = (run isD l).2 by have h := HA2.out; simpa [run] using h)
      go_wp2_with fail
      refine (isDigit_any _ _).mono ?_
      rintro e w3 ⟨rfl, rfl⟩
      rw [hD.out]
      obtain ⟨a, t, hat⟩ : ∃ a t, acc = a :: t := by
        cases acc with
        | nil => exact absurd HA1c.out.symm HNe.out
        | cons a t => exact ⟨a, t, rfl⟩
      have HAt := Lib.hid hat
      have hal : acc.length ≤ 32768 := by have := HLn.out; rw [← HA1c.out] at this; exact this
      have HV8 := Lib.hid (show w2.ownsRow w.heap.size 5 1 (.slice A0 acc.length cp0) acc.length (bytesV (a :: t)) by rw [← hat]; exact HV.out)
      obtain ⟨g, cp, hvg, hc0⟩ := own_first HV8.out
      injection hvg with hA _ hcp
      subst hA hcp
      have hcv := row_string HV.out
      have HRw := Lib.hid (show Rd w2 b T (run isD l).2 by rw [← HA2c.out]; exact HR1.out)
      have ha := a.toNat_lt
      have h1 : 1 ≤ acc.length := by rw [hat]; simp
      clear hat HR1
      by_cases h3 : 3 < acc.length
      · have h3i : (3 : Int) < (acc.length : Int) := by omega
        have HP := Lib.hid (show posS (run isD l).1 = [] by
          rw [← HA1c.out]
          unfold posS posOk
          have e1 : (acc == [48]) = false := by rw [beq_eq_false_iff_ne]; intro e; rw [e] at h3; simp at h3
          rw [e1]
          simp
          omega)
        go_wp2_with fail
        rw [← HQ.out]
        exact ⟨by rw [HP.out]; rfl, HRw.out, HO1.out⟩
      · by_cases h2 : 1 < acc.length
        · have h2i : (1 : Int) < (acc.length : Int) := by omega
          by_cases h48 : a = 48
          · have he : ((a.toNat : Int) == 48) = true := by rw [h48]; rfl
            have HP := Lib.hid (show posS (run isD l).1 = [] by
              rw [← HA1c.out]
              unfold posS posOk
              have e1 : (acc == [48]) = false := by rw [beq_eq_false_iff_ne]; intro e; rw [e] at h2; simp at h2
              have e2 : acc.take 1 = [48] := by rw [HAt.out, h48]; rfl
              rw [e1, e2]
              simp)
            clear h48
            go_wp2_with fail
            rw [← HQ.out]
            exact ⟨by rw [HP.out]; rfl, HRw.out, HO1.out⟩
          · have he : ((a.toNat : Int) == 48) = false := by
              rw [beq_eq_false_iff_ne]
              exact fun e => h48 (UInt8.toNat_inj.1 (show a.toNat = 48 by omega))
            have HP := Lib.hid (show posS (run isD l).1 = acc by
              rw [← HA1c.out]
              unfold posS posOk
              have e2 : (acc.take 1 != [48]) = true := by rw [HAt.out]; simp [h48]
              have e3 : (acc != []) = true := by rw [HAt.out]; rfl
              rw [e2, e3, decide_eq_true (show acc.length ≤ 3 by omega)]
              simp)
            clear h48
            go_wp2_with fail
            rw [← HQ.out]
            exact ⟨by rw [HP.out]; rfl, HRw.out, HO1.out⟩
        · have HP := Lib.hid (show posS (run isD l).1 = acc by
            rw [← HA1c.out]
            have ht : t = [] := by have h := HAt.out; rw [h] at h2; simpa using h2
            rw [HAt.out, ht]
            unfold posS posOk
            by_cases h48 : a = 48
            · rw [h48]; rfl
            · simp [h48])
          go_wp2_with fail
          rw [← HQ.out]
          exact ⟨by rw [HP.out]; rfl, HRw.out, HO1.out⟩
    | cons c r =>
      cases hw : isD c with
      | false =>
        have hr := run_cons (q := isD) HL1.out
        rw [hw] at hr
        have hD := Lib.hid (show isDB (headI (c :: r)) = false from (isDB_u8 c).trans hw)
        have HA1c := Lib.hid (show acc = (run isD l).1 by have h := HA1.out; rw [hr] at h; simpa using h)
        have HA2c := Lib.hid (show c :: r = (run isD l).2 by have h := HA2.out; rw [hr] at h; simpa using h)
        clear hr hw
        go_wp2_with fail
        refine (isDigit_any _ _).mono ?_
        rintro e w3 ⟨rfl, rfl⟩
        rw [hD.out]
        obtain ⟨a, t, hat⟩ : ∃ a t, acc = a :: t := by
          cases acc with
          | nil => exact absurd HA1c.out.symm HNe.out
          | cons a t => exact ⟨a, t, rfl⟩
        have HAt := Lib.hid hat
        have hal : acc.length ≤ 32768 := by have := HLn.out; rw [← HA1c.out] at this; exact this
        have HV8 := Lib.hid (show w2.ownsRow w.heap.size 5 1 (.slice A0 acc.length cp0) acc.length (bytesV (a :: t)) by rw [← hat]; exact HV.out)
        obtain ⟨g, cp, hvg, hc0⟩ := own_first HV8.out
        injection hvg with hA _ hcp
        subst hA hcp
        have hcv := row_string HV.out
        have HRw := Lib.hid (show Rd w2 b T (run isD l).2 by rw [← HA2c.out]; exact HR1.out)
        have ha := a.toNat_lt
        have h1 : 1 ≤ acc.length := by rw [hat]; simp
        clear hat HR1
        by_cases h3 : 3 < acc.length
        · have h3i : (3 : Int) < (acc.length : Int) := by omega
          have HP := Lib.hid (show posS (run isD l).1 = [] by
            rw [← HA1c.out]
            unfold posS posOk
            have e1 : (acc == [48]) = false := by rw [beq_eq_false_iff_ne]; intro e; rw [e] at h3; simp at h3
            rw [e1]
            simp
            omega)
          go_wp2_with fail
          rw [← HQ.out]
          exact ⟨by rw [HP.out]; rfl, HRw.out, HO1.out⟩
        · by_cases h2 : 1 < acc.length
          · have h2i : (1 : Int) < (acc.length : Int) := by omega
            by_cases h48 : a = 48
            · have he : ((a.toNat : Int) == 48) = true := by rw [h48]; rfl
              have HP := Lib.hid (show posS (run isD l).1 = [] by
                rw [← HA1c.out]
                unfold posS posOk
                have e1 : (acc == [48]) = false := by rw [beq_eq_false_iff_ne]; intro e; rw [e] at h2; simp at h2
                have e2 : acc.take 1 = [48] := by rw [HAt.out, h48]; rfl
                rw [e1, e2]
                simp)
              clear h48
              go_wp2_with fail
              rw [← HQ.out]
              exact ⟨by rw [HP.out]; rfl, HRw.out, HO1.out⟩
            · have he : ((a.toNat : Int) == 48) = false := by
                rw [beq_eq_false_iff_ne]
                exact fun e => h48 (UInt8.toNat_inj.1 (show a.toNat = 48 by omega))
              have HP := Lib.hid (show posS (run isD l).1 = acc by
                rw [← HA1c.out]
                unfold posS posOk
                have e2 : (acc.take 1 != [48]) = true := by rw [HAt.out]; simp [h48]
                have e3 : (acc != []) = true := by rw [HAt.out]; rfl
                rw [e2, e3, decide_eq_true (show acc.length ≤ 3 by omega)]
                simp)
              clear h48
              go_wp2_with fail
              rw [← HQ.out]
              exact ⟨by rw [HP.out]; rfl, HRw.out, HO1.out⟩
          · have HP := Lib.hid (show posS (run isD l).1 = acc by
              rw [← HA1c.out]
              have ht : t = [] := by have h := HAt.out; rw [h] at h2; simpa using h2
              rw [HAt.out, ht]
              unfold posS posOk
              by_cases h48 : a = 48
              · rw [h48]; rfl
              · simp [h48])
            go_wp2_with fail
            rw [← HQ.out]
            exact ⟨by rw [HP.out]; rfl, HRw.out, HO1.out⟩
      | true =>
        have hr := run_cons (q := isD) HL1.out
        rw [hw, if_pos rfl] at hr
        have HA1c := Lib.hid (show acc ++ ([c] ++ (run isD r).1) = (run isD l).1 by have h := HA1.out; rw [hr] at h; exact h)
        have HA2c := Lib.hid (show (run isD r).2 = (run isD l).2 by have h := HA2.out; rw [hr] at h; exact h)
        have hal : acc.length ≤ 32768 := by have h := HLn.out; rw [← HA1c.out] at h; simp at h; omega
        have hD := Lib.hid (show isDB (headI (c :: r)) = true from (isDB_u8 c).trans hw)
        clear hr hw
        go_wp2_with fail
        refine (isDigit_any _ _).mono ?_
        rintro e w3 ⟨rfl, rfl⟩
        rw [hD.out]
        go_wp2_with fail
        refine (HNx.out (c :: r) c r _ HR1.out HL1.out).mono ?_
        rintro e w4 ⟨rfl, hr4, ho4⟩
        have HR4 := Lib.hid hr4
        have HO4 := Lib.hid (HO1.out.trans ho4)
        have HV4 := Lib.hid (own_only HV.out ho4 hltB)
        have HVa := Lib.hid (HV4.out.alloc (.cells #[.int .u8 (c.toNat : Int)] 5))
        have HN := Lib.hid (new_one w4 (.int .u8 (c.toNat : Int)) 5)
        have hba := (Below.refl w4.heap.size w4).alloc (Nat.le_refl _) (.cells #[.int .u8 (c.toNat : Int)] 5)
        have HRa := Lib.hid (HR4.out.keep hba)
        have HOa := Lib.hid (HO4.out.trans (Only.of (b := b) hba (Nat.le_refl _)))
        clear hr4 ho4 hba
        have hzz := HO4.out.size
        go_wp2_with (at_builtin; refine wpList_append_own _ rfl _ _ 82 rfl (w.heap.size) 5 i1 (.int .u8 0) 1 1 Tryz.underlying82 hi1 hy0 hy1 hy2 rfl (by decide) (.slice A0 acc.length cp0) acc.length _ rfl HVa.out ⟨w4.heap.size, 0, none⟩ 1 1 [.int .u8 (c.toNat : Int)] rfl rfl HN.out (fun z hz => by simp at hz; subst hz; rfl) ?c3 ?c4 ?c5 ?_)
        case c3 => unfold maxLen; omega
        case c4 => omega
        case c5 => simp; omega
        intro v6 w6 hown6 hg6 _
        have hgr : ∀ q, (Value.slice A0 acc.length cp0).ownBlock = some q → w.heap.size ≤ q := fun q hq => (HVa.out.lt q hq).1
        have HR6 := Lib.hid (HRa.out.grown hg6 hgr hltB)
        have HO6 := Lib.hid (HOa.out.grown hg6 hgr)
        have HV6 : Hid (w6.ownsRow (w.heap.size) 5 1 v6 (acc ++ [c]).length (bytesV (acc ++ [c]))) := Lib.hid (by
          rw [← bytes_snoc, List.length_append]
          exact hown6)
        clear hown6 hg6 hgr hzz HV HR1 HO1 HVa HN HRa HOa HR4 HO4 HV4
        go_wp2_with fail
        refine ⟨⟨v6, acc ++ [c], r, rfl, HR6, HV6, Lib.hid (by rw [List.append_assoc]; exact HA1c.out), Lib.hid HA2c.out, HO6⟩, ?_⟩
        have h1 := HPos.out
        have h2 := HR6.out.pos
        have h3 := HLe.out
        have h4 : (c :: r).length = r.length + 1 := rfl
        show T.length - posOf _ b < _
        omega

end Go.Proofs.YtiigclkebnmopaaGreatDoor

namespace Go.Proofs.YtiigclkebnmopaaGreatDoor
open Go.RowKit Go.Shelf

theorem one_string (w : World) (c : UInt8) :
    (convert 82 9 (.slice (some ⟨w.heap.size, 0, none⟩) 1 1)).run Tryz.prog (w.alloc (.cells #[.int .u8 (c.toNat : Int)] 5)) = .ok (.string ⟨#[c]⟩) (w.alloc (.cells #[.int .u8 (c.toNat : Int)] 5)) := by
  refine run_convert_bytes_back _ 82 9 5 ⟨w.heap.size, 0, none⟩ 1 [c] Tryz.underlying82 Tryz.underlying5 Tryz.underlying9 (fun j hj => ?_)
  have hh := heap_alloc_new w (.cells #[.int .u8 (c.toNat : Int)] 5)
  have : j = 0 := by simpa using hj
  subst this
  rw [WideShapes.add_plain]
  unfold World.cell?
  dsimp only
  rw [hh]
  rfl
theorem run_tail {l : List UInt8} : skipJ (run isW l).2 = (run isW l).2 ∧ ∀ c r, (run isW l).2 = c :: r → isW c = false := by
  suffices h : ∀ n, ∀ l : List UInt8, l.length ≤ n → skipJ (run isW l).2 = (run isW l).2 ∧ ∀ c r, (run isW l).2 = c :: r → isW c = false from h _ l (Nat.le_refl _)
  intro n
  induction n with
  | zero =>
    intro l hl
    have : l = [] := List.length_eq_zero_iff.1 (by omega)
    subst this
    exact ⟨rfl, fun c r h => by cases h⟩
  | succ n ih =>
    intro l hl
    cases hk : skipJ l with
    | nil => rw [run_end hk]; exact ⟨rfl, fun c r h => by cases h⟩
    | cons c r =>
      rw [run_cons hk]
      have hlen := skipJ_len l
      rw [hk] at hlen
      cases hw : isW c with
      | true =>
        rw [if_pos rfl]
        exact ih r (by simp at hlen; omega)
      | false =>
        rw [if_neg (by decide)]
        have h2 := skipJ_skipJ l
        rw [hk] at h2
        refine ⟨h2, fun c' r' h => ?_⟩
        injection h with h1 _
        rw [← h1]
        exact hw
/-- what the switch leaves: a name, or none -/
def DolMid (bb : Bool) (g name l2 : List UInt8) (o : Out) : Prop := (name = [] ∧ o = .bad g) ∨ (name ≠ [] ∧ o = brace bb g l2 name)
def DolMids (b bx : Nat) (T : List UInt8) (w1 : World) (bb : Bool) (g : List UInt8) (o : Out) (v : Value) (wx : World) : Prop := ∃ name l2, v = .string (toB name) ∧ Rd wx b T l2 ∧ Only b w1 wx ∧ Four wx bx (.string ⟨#[]⟩) (.int .i64 0) (.string ⟨#[]⟩) (.slice none 0 0) ∧ DolMid bb g name l2 o

set_option maxRecDepth 100000 in
set_option maxHeartbeats 3200000 in
theorem dollar_any (b : Nat) (T g l0 : List UInt8) (w : World) (h : Rd w b T g) (hg0 : g = 36 :: l0) (hg : skipJ g = g) (hlen : g.length ≤ 32768) :
    Calls Tryz.prog 228 #[.pointer (some ⟨b, 0, none⟩), .int .i64 (plc T g)] w (PG b T (dollar g) w) := by
  have HPk := Lib.hid (fun l' W hW => peek_any b T l' W hW)
  have HNx := Lib.hid (fun l' c r W hW hl => next_any b T l' c r W hW hl)
  have HTk := Lib.hid (fun l' s W hW hs => take_any b T l' s W hW hs)
  have HNm := Lib.hid (fun l' W hW => name_any b T l' W hW)
  have HPo := Lib.hid (fun l' W hW hl hn => position_any b T l' W hW hl hn)
  have hlt := h.lt
  have ba := (Below.refl w.heap.size w).alloc (Nat.le_refl _) (.cells #[.string ⟨#[]⟩, .int .i64 0, .string ⟨#[]⟩, .slice none 0 0] 25)
  have HR := Lib.hid (h.keep ba)
  have HO := Lib.hid (Only.of (b := b) ba (Nat.le_refl _))
  have H4 := Lib.hid (Four.new w (.string ⟨#[]⟩) (.int .i64 0) (.string ⟨#[]⟩) (.slice none 0 0))
  obtain ⟨bb, hbb⟩ : ∃ bb, (takeS [123] l0).isSome = bb := ⟨_, rfl⟩
  obtain ⟨L, hL⟩ : ∃ L, (takeS [123] l0).getD l0 = L := ⟨_, rfl⟩
  obtain ⟨o, ho⟩ : ∃ o, dollar g = o := ⟨_, rfl⟩
  have HD := Lib.hid (show o = dollarB bb g L by
    rw [← ho, ← hbb, ← hL, hg0]
    show (match takeS [123] l0 with | some l => dollarB true (36 :: l0) l | none => dollarB false (36 :: l0) l0) = _
    cases takeS [123] l0 <;> rfl)
  have HLl := Lib.hid (show L.length ≤ 32768 by
    rw [← hL]
    have h1 : l0.length + 1 = g.length := by rw [hg0]; rfl
    cases ht : takeS [123] l0 with
    | none => show l0.length ≤ _; omega
    | some r => have := takeS_len _ _ _ ht; show r.length ≤ _; omega)
  obtain ⟨Q, hQ⟩ : ∃ Q, PG b T o w = Q := ⟨_, rfl⟩
  rw [ho, hQ]
  have HQ := Lib.hid hQ
  have HG := Lib.hid (hg.trans hg0)
  have HBB := Lib.hid hbb
  have HLL := Lib.hid hL
  obtain ⟨pl, hpl⟩ : ∃ pl, plc T g = pl := ⟨_, rfl⟩
  have HPL := Lib.hid hpl
  rw [hpl]
  clear h hQ hg ba hpl hbb hL ho hg0
  have HB0 : Hid (w.heap.size ≤ (w.alloc (.cells #[.string ⟨#[]⟩, .int .i64 0, .string ⟨#[]⟩, .slice none 0 0] 25)).heap.size) := Lib.hid HO.out.size
  have hbx : w.heap.size ≠ b := by omega
  go_enter Tryz.func228, Tryz.ntmps228
  go_wp2_with fail
  generalize w.alloc (.cells #[.string ⟨#[]⟩, .int .i64 0, .string ⟨#[]⟩, .slice none 0 0] 25) = w1 at *
  obtain ⟨bx, hbxe⟩ : ∃ bx, w.heap.size = bx := ⟨_, rfl⟩
  have HBx := Lib.hid (show w.heap.size ≤ bx by omega)
  rw [hbxe] at hbx H4
  simp only [hbxe]
  clear hbxe
  refine (HNx.out g 36 l0 _ HR.out HG.out).mono ?_
  rintro e w2 ⟨rfl, hr2, ho2⟩
  have HR2 := Lib.hid hr2
  have HO2 := Lib.hid ho2
  have F2 := Lib.hid (H4.out.only ho2 hbx)
  clear hr2 ho2 HR H4 HG
  go_wp2_with fail
  refine (HTk.out l0 [123] _ HR2.out (by decide)).mono ?_
  rintro e w3 ⟨rfl, hr3, ho3⟩
  rw [HBB.out]
  rw [HLL.out] at hr3
  have HR3 := Lib.hid hr3
  have HO3 := Lib.hid (HO2.out.trans ho3)
  have F3 := Lib.hid (F2.out.only ho3 hbx)
  clear hr3 ho3 HR2 HO2 F2
  go_wp2_with fail
  refine (HNm.out L _ HR3.out).mono ?_
  rintro e w4 ⟨s, l', rfl, hr4, ho4, hns⟩
  have HR4 := Lib.hid hr4
  have HO4 := Lib.hid (HO3.out.trans ho4)
  have F4 := Lib.hid (F3.out.only ho4 hbx)
  have HNS := Lib.hid hns
  clear hr4 ho4 HR3 HO3 F3 hns
  go_wp2_with fail
  refine (HPk.out l' _ HR4.out).mono ?_
  rintro e w5 ⟨rfl, hr5, ho5⟩
  have HR5 := Lib.hid hr5
  have HO5 := Lib.hid (HO4.out.trans ho5)
  have F5 := Lib.hid (F4.out.only ho5 hbx)
  clear hr5 ho5 HR4 HO4 F4
  have hem0 : (toB s).toList = s := by simp [toB, ByteArray.toList_eq]
  obtain ⟨hd, hhd⟩ : ∃ hd, headI (skipJ l') = hd := ⟨_, rfl⟩
  have HH := Lib.hid hhd
  rw [hhd]
  clear hhd
  go_upto_block 0 with fail
  go_cut [6] (fun v wx => DolMids b bx T w1 bb g o v wx)
  case first =>
    rcases HNS.out with ⟨h1, rfl, rfl⟩ | ⟨h1, h2, rfl, rfl⟩ | ⟨h1, h2, h3, c, r, rfl, h4⟩
    · have hem : (toB []).toList.isEmpty = true := by rw [hem0]; rfl
      clear hem0
      cases hk : skipJ L with
      | nil =>
        have HRn : Hid (Rd w5 b T []) := Lib.hid (by have := HR5.out; rw [skipJ_skipJ, hk] at this; exact this)
        have HOm := Lib.hid (show o = .more by rw [HD.out]; unfold dollarB; rw [hk])
        obtain rfl : hd = -1 := HH.out.symm.trans (by rw [skipJ_skipJ, hk]; rfl)
        have hDm := Lib.hid (show isDB (-1) = false by decide)
        clear hk h1 HH
        cases bb with
        | true =>
          go_wp2_with fail
          refine (isDigit_any _ _).mono ?_
          rintro e w8 ⟨rfl, rfl⟩
          rw [hDm.out]
          go_wp2_with fail
          refine (isDigit_any _ _).mono ?_
          rintro e w8 ⟨rfl, rfl⟩
          rw [hDm.out]
          go_wp2_with fail
          refine (more_any b T [] _ HRn.out).mono ?_
          rintro e w9 ⟨rfl, rfl⟩
          unfold pan
          go_wp2_with fail
          rw [← HQ.out]
          exact ⟨rfl, (show PG b T o w (pan T.length 27) _ by rw [HOm.out]; exact ⟨rfl, HO.out.trans HO5.out⟩)⟩
        | false =>
          go_wp2_with fail
          refine (isDigit_any _ _).mono ?_
          rintro e w8 ⟨rfl, rfl⟩
          rw [hDm.out]
          go_wp2_with fail
          refine (more_any b T [] _ HRn.out).mono ?_
          rintro e w9 ⟨rfl, rfl⟩
          unfold pan
          go_wp2_with fail
          rw [← HQ.out]
          exact ⟨rfl, (show PG b T o w (pan T.length 27) _ by rw [HOm.out]; exact ⟨rfl, HO.out.trans HO5.out⟩)⟩
      | cons c r =>
        have hL0 : isL c = false := by unfold startL at h1; rw [hk] at h1; exact h1
        have HR5c : Hid (Rd w5 b T (c :: r)) := Lib.hid (by have := HR5.out; rw [skipJ_skipJ, hk] at this; exact this)
        have hsk := Lib.hid (show skipJ (c :: r) = c :: r by rw [← hk]; exact skipJ_skipJ L)
        obtain rfl : hd = (c.toNat : Int) := HH.out.symm.trans (by rw [skipJ_skipJ, hk]; rfl)
        have HO6 := Lib.hid (show o = if bb = true ∧ isD c = true then (if posOk (run isD L).1 = true then brace bb g (run isD L).2 (run isD L).1 else .bad g) else if isD c = true ∨ c = 35 ∨ c = 63 then brace bb g r [c] else .bad g by
          rw [HD.out]
          unfold dollarB
          rw [hk]
          simp only
          rw [hL0, if_neg (by decide)])
        have HRL := Lib.hid (show run isD (c :: r) = run isD L by rw [← hk]; exact run_skipJ L)
        have hc := c.toNat_lt
        have hcl := Lib.hid (show (c :: r).length ≤ 32768 by have h1 := skipJ_len L; have h2 := HLl.out; rw [hk] at h1; omega)
        have hcm : ((c.toNat : Int) == -1) = false := by rw [beq_eq_false_iff_ne]; omega
        clear hk h1 hL0 HR5 HH
        cases hD : isD c with
        | true =>
          have hDB := Lib.hid (show isDB (c.toNat : Int) = true from (isDB_u8 c).trans hD)
          cases bb with
          | true =>
            have hst := Lib.hid (show (run isD (c :: r)).1 ≠ [] by rw [run_cons hsk.out, if_pos hD]; exact fun e => by cases e)
            have HO7 := Lib.hid (show o = (if posOk (run isD L).1 = true then brace true g (run isD L).2 (run isD L).1 else .bad g) by rw [HO6.out, if_pos ⟨rfl, hD⟩])
            clear hD
            go_wp2_with fail
            refine (isDigit_any _ _).mono ?_
            rintro e w8 ⟨rfl, rfl⟩
            rw [hDB.out]
            go_wp2_with fail
            refine (HPo.out (c :: r) _ HR5c.out hcl.out hst.out).mono ?_
            rintro e w9 ⟨rfl, hr9, ho9⟩
            have HR9 := Lib.hid hr9
            have HO9 := Lib.hid (HO5.out.trans ho9)
            have F9 := Lib.hid (F5.out.only ho9 hbx)
            clear hr9 ho9
            go_wp2_with fail
            go_meet
            refine ⟨posS (run isD (c :: r)).1, (run isD (c :: r)).2, rfl, HR9.out, HO9.out, F9.out, ?_⟩
            rw [HO7.out]
            have hne := hst.out
            rw [HRL.out] at hne ⊢
            unfold posS
            cases hp : posOk (run isD L).1 with
            | true => exact .inr ⟨hne, rfl⟩
            | false => exact .inl ⟨rfl, rfl⟩
          | false =>
            have HO7 := Lib.hid (show o = brace false g r [c] by rw [HO6.out, if_neg (fun h => by cases h.1), if_pos (.inl hD)])
            clear hD
            go_wp2_with fail
            refine (isDigit_any _ _).mono ?_
            rintro e w8 ⟨rfl, rfl⟩
            rw [hDB.out]
            go_wp2_with fail
            refine (HNx.out (c :: r) c r _ HR5c.out hsk.out).mono ?_
            rintro e w9 ⟨rfl, hr9, ho9⟩
            have hba := (Below.refl w9.heap.size w9).alloc (Nat.le_refl _) (.cells #[.int .u8 (c.toNat : Int)] 5)
            have HR9 := Lib.hid (hr9.keep hba)
            have HO9 := Lib.hid (HO5.out.trans (ho9.trans (Only.of (b := b) hba (Nat.le_refl _))))
            have F9 := Lib.hid ((F5.out.only ho9 hbx).keep hba)
            have hcv := one_string w9 c
            clear hr9 ho9 hba
            go_wp2_with fail
            go_meet
            exact ⟨[c], r, rfl, HR9.out, HO9.out, F9.out, .inr ⟨(fun e => (by cases e)), HO7.out⟩⟩
        | false =>
          have hDB := Lib.hid (show isDB (c.toNat : Int) = false from (isDB_u8 c).trans hD)
          by_cases h35 : c = 35
          · have he : ((c.toNat : Int) == 35) = true := by rw [h35]; rfl
            have HO7 := Lib.hid (show o = brace bb g r [c] by rw [HO6.out, if_neg (fun h => by rw [hD] at h; cases h.2), if_pos (.inr (.inl h35))])
            clear hD h35
            cases bb with
            | true =>
              go_wp2_with fail
              refine (isDigit_any _ _).mono ?_
              rintro e w8 ⟨rfl, rfl⟩
              rw [hDB.out]
              go_wp2_with fail
              refine (isDigit_any _ _).mono ?_
              rintro e w8 ⟨rfl, rfl⟩
              rw [hDB.out]
              go_wp2_with fail
              refine (HNx.out (c :: r) c r _ HR5c.out hsk.out).mono ?_
              rintro e w9 ⟨rfl, hr9, ho9⟩
              have hba := (Below.refl w9.heap.size w9).alloc (Nat.le_refl _) (.cells #[.int .u8 (c.toNat : Int)] 5)
              have HR9 := Lib.hid (hr9.keep hba)
              have HO9 := Lib.hid (HO5.out.trans (ho9.trans (Only.of (b := b) hba (Nat.le_refl _))))
              have F9 := Lib.hid ((F5.out.only ho9 hbx).keep hba)
              have hcv := one_string w9 c
              clear hr9 ho9 hba
              go_wp2_with fail
              go_meet
              exact ⟨[c], r, rfl, HR9.out, HO9.out, F9.out, .inr ⟨(fun e => (by cases e)), HO7.out⟩⟩
            | false =>
              go_wp2_with fail
              refine (isDigit_any _ _).mono ?_
              rintro e w8 ⟨rfl, rfl⟩
              rw [hDB.out]
              go_wp2_with fail
              refine (HNx.out (c :: r) c r _ HR5c.out hsk.out).mono ?_
              rintro e w9 ⟨rfl, hr9, ho9⟩
              have hba := (Below.refl w9.heap.size w9).alloc (Nat.le_refl _) (.cells #[.int .u8 (c.toNat : Int)] 5)
              have HR9 := Lib.hid (hr9.keep hba)
              have HO9 := Lib.hid (HO5.out.trans (ho9.trans (Only.of (b := b) hba (Nat.le_refl _))))
              have F9 := Lib.hid ((F5.out.only ho9 hbx).keep hba)
              have hcv := one_string w9 c
              clear hr9 ho9 hba
              go_wp2_with fail
              go_meet
              exact ⟨[c], r, rfl, HR9.out, HO9.out, F9.out, .inr ⟨(fun e => (by cases e)), HO7.out⟩⟩
          · have he : ((c.toNat : Int) == 35) = false := by
              rw [beq_eq_false_iff_ne]
              exact fun e => h35 (UInt8.toNat_inj.1 (show c.toNat = 35 by omega))
            by_cases h63 : c = 63
            · have he2 : ((c.toNat : Int) == 63) = true := by rw [h63]; rfl
              have HO7 := Lib.hid (show o = brace bb g r [c] by rw [HO6.out, if_neg (fun h => by rw [hD] at h; cases h.2), if_pos (.inr (.inr h63))])
              clear hD h35 h63
              cases bb with
              | true =>
                go_wp2_with fail
                refine (isDigit_any _ _).mono ?_
                rintro e w8 ⟨rfl, rfl⟩
                rw [hDB.out]
                go_wp2_with fail
                refine (isDigit_any _ _).mono ?_
                rintro e w8 ⟨rfl, rfl⟩
                rw [hDB.out]
                go_wp2_with fail
                refine (HNx.out (c :: r) c r _ HR5c.out hsk.out).mono ?_
                rintro e w9 ⟨rfl, hr9, ho9⟩
                have hba := (Below.refl w9.heap.size w9).alloc (Nat.le_refl _) (.cells #[.int .u8 (c.toNat : Int)] 5)
                have HR9 := Lib.hid (hr9.keep hba)
                have HO9 := Lib.hid (HO5.out.trans (ho9.trans (Only.of (b := b) hba (Nat.le_refl _))))
                have F9 := Lib.hid ((F5.out.only ho9 hbx).keep hba)
                have hcv := one_string w9 c
                clear hr9 ho9 hba
                go_wp2_with fail
                go_meet
                exact ⟨[c], r, rfl, HR9.out, HO9.out, F9.out, .inr ⟨(fun e => (by cases e)), HO7.out⟩⟩
              | false =>
                go_wp2_with fail
                refine (isDigit_any _ _).mono ?_
                rintro e w8 ⟨rfl, rfl⟩
                rw [hDB.out]
                go_wp2_with fail
                refine (HNx.out (c :: r) c r _ HR5c.out hsk.out).mono ?_
                rintro e w9 ⟨rfl, hr9, ho9⟩
                have hba := (Below.refl w9.heap.size w9).alloc (Nat.le_refl _) (.cells #[.int .u8 (c.toNat : Int)] 5)
                have HR9 := Lib.hid (hr9.keep hba)
                have HO9 := Lib.hid (HO5.out.trans (ho9.trans (Only.of (b := b) hba (Nat.le_refl _))))
                have F9 := Lib.hid ((F5.out.only ho9 hbx).keep hba)
                have hcv := one_string w9 c
                clear hr9 ho9 hba
                go_wp2_with fail
                go_meet
                exact ⟨[c], r, rfl, HR9.out, HO9.out, F9.out, .inr ⟨(fun e => (by cases e)), HO7.out⟩⟩
            · have he2 : ((c.toNat : Int) == 63) = false := by
                rw [beq_eq_false_iff_ne]
                exact fun e => h63 (UInt8.toNat_inj.1 (show c.toNat = 63 by omega))
              have HO7 := Lib.hid (show o = .bad g by rw [HO6.out, if_neg (fun h => by rw [hD] at h; cases h.2), if_neg (fun h => by rw [hD] at h; rcases h with h | h | h; cases h; exact h35 h; exact h63 h)])
              clear hD h35 h63
              cases bb with
              | true =>
                go_wp2_with fail
                refine (isDigit_any _ _).mono ?_
                rintro e w8 ⟨rfl, rfl⟩
                rw [hDB.out]
                go_wp2_with fail
                refine (isDigit_any _ _).mono ?_
                rintro e w8 ⟨rfl, rfl⟩
                rw [hDB.out]
                go_wp2_with fail
                go_meet
                exact ⟨[], c :: r, rfl, HR5c.out, HO5.out, F5.out, .inl ⟨rfl, HO7.out⟩⟩
              | false =>
                go_wp2_with fail
                refine (isDigit_any _ _).mono ?_
                rintro e w8 ⟨rfl, rfl⟩
                rw [hDB.out]
                go_wp2_with fail
                go_meet
                exact ⟨[], c :: r, rfl, HR5c.out, HO5.out, F5.out, .inl ⟨rfl, HO7.out⟩⟩
    · have hrt := run_tail (l := L)
      have hne : (run isW L).1 ≠ [] := by
        unfold startL at h1
        cases hk : skipJ L with
        | nil => rw [hk] at h1; cases h1
        | cons c r =>
          rw [hk] at h1
          rw [run_cons hk, if_pos (by unfold isW; rw [show isL c = true from h1]; rfl)]
          exact fun e => by cases e
      have hem : (toB (run isW L).1).toList.isEmpty = false := by
        rw [hem0]
        cases hx : (run isW L).1 with
        | nil => exact absurd hx hne
        | cons a t => rfl
      have HO7 := Lib.hid (show o = brace bb g (run isW L).2 (run isW L).1 by
        rw [HD.out]
        unfold dollarB
        unfold startL at h1
        cases hk : skipJ L with
        | nil => rw [hk] at h1; cases h1
        | cons c r =>
          rw [hk] at h1
          simp only
          rw [if_pos (show isL c = true from h1), if_pos h2])
      have HNE := Lib.hid hne
      rw [hrt.1] at HR5 HH
      have hX : isLB (headI (run isW L).2) = false ∧ isDB (headI (run isW L).2) = false := by
        cases hx : (run isW L).2 with
        | nil => exact ⟨by decide, by decide⟩
        | cons c r =>
          have hw := hrt.2 c r hx
          unfold isW at hw
          simp at hw
          exact ⟨(isLB_u8 c).trans hw.1, (isDB_u8 c).trans hw.2⟩
      rw [HH.out] at hX
      have hLB := Lib.hid hX.1
      have hDB := Lib.hid hX.2
      clear hrt hne hX hem0 h1 h2
      go_wp2_with fail
      refine (isLetter_any _ _).mono ?_
      rintro e w8 ⟨rfl, rfl⟩
      rw [hLB.out]
      go_wp2_with fail
      refine (isDigit_any _ _).mono ?_
      rintro e w8 ⟨rfl, rfl⟩
      rw [hDB.out]
      go_wp2_with fail
      go_meet
      exact ⟨(run isW L).1, (run isW L).2, rfl, HR5.out, HO5.out, F5.out, .inr ⟨HNE.out, HO7.out⟩⟩
    · have hem : (toB s).toList.isEmpty = false := by
        rw [hem0]
        cases s with
        | nil => exact absurd rfl h3
        | cons a t => rfl
      have HO7 := Lib.hid (show o = .bad g by
        rw [HD.out]
        unfold dollarB
        unfold startL at h1
        cases hk : skipJ L with
        | nil => rw [hk] at h1; cases h1
        | cons c r =>
          rw [hk] at h1
          simp only
          rw [if_pos (show isL c = true from h1), if_neg (by omega)])
      have hsk : headI (skipJ (c :: r)) = (c.toNat : Int) := by
        have hc92 : c ≠ 92 := fun e => by rw [e] at h4; exact absurd h4 (by decide)
        cases r with
        | nil => rfl
        | cons a t => simp [skipJ, hc92, headI]
      obtain rfl : hd = (c.toNat : Int) := HH.out.symm.trans hsk
      clear hem0 h1 h2 h3 hsk HH
      cases hLc : isL c with
      | true =>
        have hLB := Lib.hid (show isLB (c.toNat : Int) = true from (isLB_u8 c).trans hLc)
        clear hLc h4
        go_wp2_with fail
        refine (isLetter_any _ _).mono ?_
        rintro e w8 ⟨rfl, rfl⟩
        rw [hLB.out]
        go_wp2_with fail
        refine (fail_any _ _ _).mono ?_
        rintro e w9 ⟨rfl, rfl⟩
        unfold pan
        go_wp2_with fail
        rw [← HQ.out]
        exact ⟨rfl, (show PG b T o w (pan pl 1) _ by rw [HO7.out]; exact ⟨by rw [HPL.out], HO.out.trans HO5.out⟩)⟩
      | false =>
        have hDc : isD c = true := by unfold isW at h4; rw [hLc] at h4; simpa using h4
        have hLB := Lib.hid (show isLB (c.toNat : Int) = false from (isLB_u8 c).trans hLc)
        have hDB := Lib.hid (show isDB (c.toNat : Int) = true from (isDB_u8 c).trans hDc)
        clear hLc h4 hDc
        go_wp2_with fail
        refine (isLetter_any _ _).mono ?_
        rintro e w8 ⟨rfl, rfl⟩
        rw [hLB.out]
        go_wp2_with fail
        refine (isDigit_any _ _).mono ?_
        rintro e w8 ⟨rfl, rfl⟩
        rw [hDB.out]
        go_wp2_with fail
        refine (fail_any _ _ _).mono ?_
        rintro e w9 ⟨rfl, rfl⟩
        unfold pan
        go_wp2_with fail
        rw [← HQ.out]
        exact ⟨rfl, (show PG b T o w (pan pl 1) _ by rw [HO7.out]; exact ⟨by rw [HPL.out], HO.out.trans HO5.out⟩)⟩
  case rest =>
    obtain ⟨name, l2, rfl, hr, ho, hf, hdm⟩ := hcut
    have HR6 := Lib.hid hr
    have HO6 := Lib.hid ho
    have F6 := Lib.hid hf
    have HDM := Lib.hid hdm
    have hem0 : (toB name).toList = name := by simp [toB, ByteArray.toList_eq]
    clear hr ho hf hdm HNS HR5 HO5 F5 HH
    rcases HDM.out with ⟨h1, h2⟩ | ⟨h1, h2⟩
    · have hem : (toB name).toList.isEmpty = true := by rw [hem0, h1]; rfl
      have HO7 := Lib.hid h2
      clear hem0 h1 h2 HDM
      go_wp2_with fail
      refine (fail_any _ _ _).mono ?_
      rintro e w9 ⟨rfl, rfl⟩
      unfold pan
      go_wp2_with fail
      rw [← HQ.out]
      exact ⟨rfl, (show PG b T o w (pan pl 1) _ by rw [HO7.out]; exact ⟨by rw [HPL.out], HO.out.trans HO6.out⟩)⟩
    · have hem : (toB name).toList.isEmpty = false := by
        rw [hem0]
        cases hx : name with
        | nil => exact absurd hx h1
        | cons a t => rfl
      have HO7 := Lib.hid h2
      clear hem0 h1 h2 HDM
      cases bb with
      | false =>
        obtain ⟨k0, k1, k2, k3, kf⟩ := F6.out.cells
        go_wp2_with fail
        have F5 := Lib.hid (F6.out.set (.string ⟨#[118]⟩) (.int .i64 0) (.string (toB name)) (.slice none 0 0))
        have O5 := Lib.hid (Only.set4 wc bx (.string ⟨#[118]⟩) (.int .i64 0) (.string (toB name)) (.slice none 0 0))
        have R5 := Lib.hid (HR6.out.only O5.out (fun e => hbx e.symm))
        have G5 := Lib.hid ((HO.out.trans HO6.out).new O5.out HBx.out)
        obtain ⟨q0, q1, q2, q3, qf⟩ := F5.out.cells
        unfold set4 at q0 q1 q2 q3
        refine bodyPost_ret (v := .agg #[.string ⟨#[118]⟩, .int .i64 0, .string (toB name), .slice none 0 0]) (by simp [results, Tryz.results228, go_sem, q0, q1, q2, q3]) rfl ?_
        rw [← HQ.out, show o = .ok (vx name) l2 from HO7.out]
        exact ⟨_, rfl, ExV.flat _ _ [118] name 0, R5.out, G5.out⟩
      | true =>
        go_wp2_with fail
        refine (HTk.out l2 [125] _ HR6.out (by decide)).mono ?_
        rintro e w9 ⟨rfl, hr9, ho9⟩
        have HO9 := Lib.hid (HO6.out.trans ho9)
        have F9 := Lib.hid (F6.out.only ho9 hbx)
        clear ho9
        cases ht : takeS [125] l2 with
        | some r =>
          rw [ht] at hr9
          have HR9 := Lib.hid hr9
          have HO8 := Lib.hid (show o = .ok (vx name) r by rw [HO7.out]; unfold brace; rw [if_pos rfl, ht])
          clear ht hr9 HR6 HO6 F6
          rw [show (some r).isSome = true from rfl]
          obtain ⟨k0, k1, k2, k3, kf⟩ := F9.out.cells
          go_wp2_with fail
          have F5 := Lib.hid (F9.out.set (.string ⟨#[118]⟩) (.int .i64 0) (.string (toB name)) (.slice none 0 0))
          have O5 := Lib.hid (Only.set4 w9 bx (.string ⟨#[118]⟩) (.int .i64 0) (.string (toB name)) (.slice none 0 0))
          have R5 := Lib.hid (HR9.out.only O5.out (fun e => hbx e.symm))
          have G5 := Lib.hid ((HO.out.trans HO9.out).new O5.out HBx.out)
          obtain ⟨q0, q1, q2, q3, qf⟩ := F5.out.cells
          unfold set4 at q0 q1 q2 q3
          refine bodyPost_ret (v := .agg #[.string ⟨#[118]⟩, .int .i64 0, .string (toB name), .slice none 0 0]) (by simp [results, Tryz.results228, go_sem, q0, q1, q2, q3]) rfl ?_
          rw [← HQ.out, HO8.out]
          exact ⟨_, rfl, ExV.flat _ _ [118] name 0, R5.out, G5.out⟩
        | none =>
          rw [ht] at hr9
          have HR9 := Lib.hid hr9
          have HO8 := Lib.hid (show o = (if skipJ l2 = [] then .more else .bad g) by rw [HO7.out]; unfold brace; rw [if_pos rfl, ht])
          clear ht hr9 HR6 HO6 F6
          rw [show (none : Option (List UInt8)).isSome = false from rfl]
          go_wp2_with fail
          refine (HPk.out l2 _ HR9.out).mono ?_
          rintro e w10 ⟨rfl, hr10, ho10⟩
          have HR10 := Lib.hid hr10
          have HO10 := Lib.hid (HO9.out.trans ho10)
          clear hr10 ho10
          cases hk : skipJ l2 with
          | nil =>
            have HOm := Lib.hid (show o = .more by rw [HO8.out, if_pos hk])
            rw [show headI [] = -1 from rfl]
            clear hk
            go_wp2_with fail
            refine (more_any b T _ _ HR10.out).mono ?_
            rintro e w11 ⟨rfl, rfl⟩
            unfold pan
            go_wp2_with fail
            rw [← HQ.out]
            exact ⟨rfl, (show PG b T o w (pan T.length 27) _ by rw [HOm.out]; exact ⟨rfl, HO.out.trans HO10.out⟩)⟩
          | cons c r =>
            have HOm := Lib.hid (show o = .bad g by rw [HO8.out, if_neg (by rw [hk]; simp)])
            rw [show headI (c :: r) = (c.toNat : Int) from rfl]
            have hcm : ((c.toNat : Int) == -1) = false := by rw [beq_eq_false_iff_ne]; omega
            clear hk
            go_wp2_with fail
            refine (fail_any _ _ _).mono ?_
            rintro e w11 ⟨rfl, rfl⟩
            unfold pan
            go_wp2_with fail
            rw [← HQ.out]
            exact ⟨rfl, (show PG b T o w (pan pl 1) _ by rw [HOm.out]; exact ⟨by rw [HPL.out], HO.out.trans HO10.out⟩)⟩

end Go.Proofs.YtiigclkebnmopaaGreatDoor

namespace Go.Proofs.YtiigclkebnmopaaGreatDoor
open Go.RowKit Go.Shelf

theorem ExV.only {P : Nat → Prop} {w w' : World} {y : Nat} {v : Value} {x : Ex} (h : ExV P w v x) (ho : Only y w w') (hy : ¬ P y) : ExV P w' v x :=
  ExV.keep ho.size (fun g hP hg => ⟨ho.block g hg (fun e => hy (e ▸ hP)), hP⟩) x h
theorem ExV.mono {P Q : Nat → Prop} {w : World} {v : Value} {x : Ex} (h : ExV P w v x) (hq : ∀ g, P g → g < w.heap.size → Q g) : ExV Q w v x :=
  ExV.keep (Nat.le_refl _) (fun g hP hg => ⟨rfl, hq g hP hg⟩) x h
theorem ExV.below {P : Nat → Prop} {w w' : World} {v : Value} {x : Ex} (h : ExV P w v x) (hb : Below w.heap.size w w') : ExV P w' v x :=
  ExV.keep hb.size (fun g hP hg => ⟨hb.block g hg, hP⟩) x h
theorem ExV.form {P : Nat → Prop} {w : World} {v : Value} {x : Ex} (h : ExV P w v x) : ∃ (n : Int) (A : Option Addr) (k c : Nat) (nm : List UInt8), v = .agg #[.string (toB x.op), .int .i64 (n : Int), .string (toB nm), .slice A k c] ∧ nm = x.name := by
  cases x with
  | mk op n nm args =>
    unfold ExV at h
    obtain ⟨A, c, hv, _⟩ := h
    exact ⟨n, A, args.length, c, nm, hv, rfl⟩
theorem box_cell (w : World) (cs : Array Value) (T : TypeId) (j : Nat) : (w.alloc (.cells cs T)).cell? ⟨w.heap.size, j, none⟩ = cs[j]? := by
  have hh := heap_alloc_new w (.cells cs T)
  unfold World.cell?
  dsimp only
  rw [hh]
  rfl
theorem exl_one {P : Nat → Prop} {w : World} {a0 a1 a2 a3 : Value} {x : Ex} (h : ExV P w (.agg #[a0, a1, a2, a3]) x) (t : TypeId) : ExL P (w.alloc (.cells #[a0, a1, a2, a3] t)) w.heap.size 0 [x] := by
  unfold ExL
  refine ⟨⟨a0, a1, a2, a3, ?_, ?_, ?_, ?_, h.below ((Below.refl w.heap.size w).alloc (Nat.le_refl _) _)⟩, by unfold ExL; trivial⟩
  all_goals exact box_cell _ _ _ _
theorem exl_two {P : Nat → Prop} {w : World} {a0 a1 a2 a3 b0 b1 b2 b3 : Value} {x y : Ex} (h : ExV P w (.agg #[a0, a1, a2, a3]) x) (h' : ExV P w (.agg #[b0, b1, b2, b3]) y) (t : TypeId) :
    ExL P (w.alloc (.cells #[a0, a1, a2, a3, b0, b1, b2, b3] t)) w.heap.size 0 [x, y] := by
  have hb := (Below.refl w.heap.size w).alloc (Nat.le_refl _) (.cells #[a0, a1, a2, a3, b0, b1, b2, b3] t)
  unfold ExL
  refine ⟨⟨a0, a1, a2, a3, ?_, ?_, ?_, ?_, h.below hb⟩, ?_⟩
  · exact box_cell _ _ _ _
  · exact box_cell _ _ _ _
  · exact box_cell _ _ _ _
  · exact box_cell _ _ _ _
  · unfold ExL
    refine ⟨⟨b0, b1, b2, b3, ?_, ?_, ?_, ?_, h'.below hb⟩, by unfold ExL; trivial⟩
    all_goals exact box_cell _ _ _ _
theorem exl_three {P : Nat → Prop} {w : World} {a0 a1 a2 a3 b0 b1 b2 b3 c0 c1 c2 c3 : Value} {x y z : Ex} (h : ExV P w (.agg #[a0, a1, a2, a3]) x) (h' : ExV P w (.agg #[b0, b1, b2, b3]) y) (h'' : ExV P w (.agg #[c0, c1, c2, c3]) z) (t : TypeId) :
    ExL P (w.alloc (.cells #[a0, a1, a2, a3, b0, b1, b2, b3, c0, c1, c2, c3] t)) w.heap.size 0 [x, y, z] := by
  have hb := (Below.refl w.heap.size w).alloc (Nat.le_refl _) (.cells #[a0, a1, a2, a3, b0, b1, b2, b3, c0, c1, c2, c3] t)
  unfold ExL
  refine ⟨⟨a0, a1, a2, a3, ?_, ?_, ?_, ?_, h.below hb⟩, ?_⟩
  · exact box_cell _ _ _ _
  · exact box_cell _ _ _ _
  · exact box_cell _ _ _ _
  · exact box_cell _ _ _ _
  · unfold ExL
    refine ⟨⟨b0, b1, b2, b3, ?_, ?_, ?_, ?_, h'.below hb⟩, ?_⟩
    · exact box_cell _ _ _ _
    · exact box_cell _ _ _ _
    · exact box_cell _ _ _ _
    · exact box_cell _ _ _ _
    · unfold ExL
      refine ⟨⟨c0, c1, c2, c3, ?_, ?_, ?_, ?_, h''.below hb⟩, by unfold ExL; trivial⟩
      all_goals exact box_cell _ _ _ _
/-- an expression over a row of its parts -/
theorem exv_row {P : Nat → Prop} {w : World} {g : Nat} {l : List Ex} (hl : ExL P w g 0 l) (hp : P g) (hg : g < w.heap.size) (_hne : 0 < l.length) (s : List UInt8) (nm : List UInt8) (v : Value) (hv : v = .agg #[.string (toB s), .int .i64 0, .string (toB nm), .slice (some ⟨g, 0, none⟩) l.length l.length]) : ExV P w v (.mk s 0 nm l) := by
  unfold ExV
  exact ⟨_, _, hv, Nat.le_refl _, fun _ => ⟨g, 0, rfl, hp, hg, hl⟩⟩

theorem out_cases (o : Out) : (∃ x l, o = .ok x l) ∨ (∀ x l, o ≠ .ok x l) := by
  cases o with
  | ok x l => exact .inl ⟨x, l, rfl⟩
  | _ => exact .inr (fun _ _ h => by cases h)
theorem PG.hard {b : Nat} {T : List UInt8} {o : Out} {w : World} {e : Ending} {w' : World} : PG b T o.hard w e w' ↔ PG b T o w e w' := by
  cases o <;> exact Iff.rfl
/-- a reading that fails ends in a panic, and so does what goes on behind it -/
theorem PG.fail {b : Nat} {T : List UInt8} {o : Out} {W : World} {e : Ending} {w' : World} (hn : ∀ x l, o ≠ .ok x l) (h : PG b T o W e w') : ∃ p c, e = pan p c ∧ Only b W w' ∧ ∀ (F : Ex → List UInt8 → Out) (w : World), Only b w w' → PG b T (o.bind F) w (pan p c) w' := by
  cases o with
  | ok x l => exact absurd rfl (hn x l)
  | stuck l => exact ⟨_, _, h.1, h.2, fun F w hw => ⟨rfl, hw⟩⟩
  | bad l => exact ⟨_, _, h.1, h.2, fun F w hw => ⟨rfl, hw⟩⟩
  | more => exact ⟨_, _, h.1, h.2, fun F w hw => ⟨rfl, hw⟩⟩
  | none => exact h.elim
/-- wrong at the next token, as a result -/
theorem PG.badAt {b : Nat} {T l : List UInt8} {w w2 w' : World} {e : Ending} (h : (if gap l = [] then e = pan T.length 27 else e = pan (plc T (gap l)) 1) ∧ Only b w2 w') (hw : Only b w w2) : PG b T (badAt l) w e w' ∧ ∃ p c, e = pan p c := by
  unfold Go.Proofs.YtiigclkebnmopaaGreatDoor.badAt
  by_cases hg : gap l = []
  · rw [if_pos hg] at h ⊢
    exact ⟨⟨h.1, hw.trans h.2⟩, _, _, h.1⟩
  · rw [if_neg hg] at h ⊢
    exact ⟨⟨h.1, hw.trans h.2⟩, _, _, h.1⟩

/-- a function that reads: its result's box, the reader -/
structure SX (w : World) (b bx : Nat) (T l : List UInt8) (W : World) : Prop where
  rd : Rd W b T l
  only : Only b w W
  res : Four W bx (.string ⟨#[]⟩) (.int .i64 0) (.string ⟨#[]⟩) (.slice none 0 0)
  ne : w.heap.size ≤ bx ∧ b < w.heap.size
theorem SX.start {w : World} {b : Nat} {T l : List UInt8} (h : Rd w b T l) : SX w b w.heap.size T l (w.alloc (.cells #[.string ⟨#[]⟩, .int .i64 0, .string ⟨#[]⟩, .slice none 0 0] 25)) := by
  have ba := (Below.refl w.heap.size w).alloc (Nat.le_refl _) (.cells #[.string ⟨#[]⟩, .int .i64 0, .string ⟨#[]⟩, .slice none 0 0] 25)
  exact ⟨h.keep ba, Only.of ba (Nat.le_refl _), Four.new w _ _ _ _, Nat.le_refl _, h.lt⟩
theorem SX.step {w W W' : World} {b bx : Nat} {T l l' : List UInt8} (h : SX w b bx T l W) (hr : Rd W' b T l') (ho : Only b W W') : SX w b bx T l' W' :=
  ⟨hr, h.only.trans ho, h.res.only ho (by have := h.ne; omega), h.ne⟩
theorem SX.below {w W W' : World} {b bx : Nat} {T l : List UInt8} (h : SX w b bx T l W) (hb : Below W.heap.size W W') : SX w b bx T l W' :=
  ⟨h.rd.keep hb, h.only.trans (Only.of hb (Nat.le_refl _)), h.res.keep hb, h.ne⟩
/-- another new block is changed -/
theorem SX.other {w W W' : World} {b bx y : Nat} {T l : List UInt8} (h : SX w b bx T l W) (ho : Only y W W') (hy : bx < y) : SX w b bx T l W' :=
  ⟨h.rd.only ho (by have := h.ne; omega), h.only.new ho (by have := h.ne; omega), h.res.only ho (by omega), h.ne⟩
theorem SX.lt {w W : World} {b bx : Nat} {T l : List UInt8} (h : SX w b bx T l W) : bx < W.heap.size := h.res.lt
/-- the result is stored -/
theorem SX.gives {w W : World} {b bx : Nat} {T l : List UInt8} {v0 v1 v2 v3 : Value} {x : Ex} (h : SX w b bx T l W) (hv : ExV (fun g => w.heap.size ≤ g ∧ g ≠ bx) W (.agg #[v0, v1, v2, v3]) x) {o : Out} (ho : o = .ok x l) :
    PG b T o w (.returned (.agg #[v0, v1, v2, v3])) (set4 W bx v0 v1 v2 v3) ∧ Four (set4 W bx v0 v1 v2 v3) bx v0 v1 v2 v3 := by
  have O5 := Only.set4 W bx v0 v1 v2 v3
  have hne := h.ne
  subst ho
  exact ⟨⟨_, rfl, (hv.only O5 (fun hh => hh.2 rfl)).mono (fun g hg _ => hg.1), h.rd.only O5 (by omega), h.only.new O5 (by omega)⟩, h.res.set _ _ _ _⟩

/-- where an operand's parts lie -/
def PP (w : World) (bx gx : Nat) : Nat → Prop := fun g => w.heap.size ≤ g ∧ g ≠ bx ∧ g ≠ gx
/-- a reading function that holds an operand in a box -/
structure SB (w : World) (b bx gx : Nat) (T l : List UInt8) (v0 v1 v2 v3 : Value) (x : Ex) (W : World) : Prop where
  sx : SX w b bx T l W
  four : Four W gx v0 v1 v2 v3
  val : ExV (PP w bx gx) W (.agg #[v0, v1, v2, v3]) x
  lt : bx < gx
theorem SX.box {w w1 w2 : World} {b bx : Nat} {T l l1 : List UInt8} {v0 v1 v2 v3 : Value} {x : Ex} (h : SX w b bx T l w1) (hr : Rd w2 b T l1) (ho : Only b w1 w2) (hx : ExV (Nw w1) w2 (.agg #[v0, v1, v2, v3]) x) :
    SB w b bx w2.heap.size T l1 v0 v1 v2 v3 x (w2.alloc (.cells #[v0, v1, v2, v3] 25)) := by
  have ba := (Below.refl w2.heap.size w2).alloc (Nat.le_refl _) (.cells #[v0, v1, v2, v3] 25)
  have h1 := h.lt
  have h2 := ho.size
  have h3 := h.ne
  refine ⟨(h.step hr ho).below ba, Four.new w2 _ _ _ _, (hx.mono (fun g hg hgl => ?_)).below ba, by omega⟩
  have hgw : w1.heap.size ≤ g := hg
  exact ⟨by omega, by omega, by omega⟩
theorem SB.step {w W W' : World} {b bx gx : Nat} {T l l' : List UInt8} {v0 v1 v2 v3 : Value} {x : Ex} (h : SB w b bx gx T l v0 v1 v2 v3 x W) (hr : Rd W' b T l') (ho : Only b W W') : SB w b bx gx T l' v0 v1 v2 v3 x W' := by
  have hne := h.sx.ne
  have hlt := h.lt
  exact ⟨h.sx.step hr ho, h.four.only ho (by omega), h.val.only ho (fun hh => by have := hh.1; omega), h.lt⟩
theorem SB.below {w W W' : World} {b bx gx : Nat} {T l : List UInt8} {v0 v1 v2 v3 : Value} {x : Ex} (h : SB w b bx gx T l v0 v1 v2 v3 x W) (hb : Below W.heap.size W W') : SB w b bx gx T l v0 v1 v2 v3 x W' :=
  ⟨h.sx.below hb, h.four.keep hb, h.val.below hb, h.lt⟩
/-- the operand is the result -/
theorem SB.gives {w W : World} {b bx gx : Nat} {T l : List UInt8} {v0 v1 v2 v3 : Value} {x : Ex} (h : SB w b bx gx T l v0 v1 v2 v3 x W) {o : Out} (ho : o = .ok x l) :
    PG b T o w (.returned (.agg #[v0, v1, v2, v3])) (set4 W bx v0 v1 v2 v3) ∧ Four (set4 W bx v0 v1 v2 v3) bx v0 v1 v2 v3 :=
  h.sx.gives (h.val.mono (fun _ hg _ => ⟨hg.1, hg.2.1⟩)) ho
theorem set4_alloc (W : World) (o : Obj) (x : Nat) (a b c d : Value) (hx : x < W.heap.size) : set4 (W.alloc o) x a b c d = (set4 W x a b c d).alloc o := by
  unfold set4
  have hs : ∀ (V : World) (i : Nat) (v : Value), (V.setCell ⟨x, i, none⟩ v).heap.size = V.heap.size := fun V i v => by simp [World.setCell]
  rw [World.setCell_alloc_past o x 0 a hx, World.setCell_alloc_past o x 1 b (by rw [hs]; exact hx), World.setCell_alloc_past o x 2 c (by rw [hs, hs]; exact hx), World.setCell_alloc_past o x 3 d (by rw [hs, hs, hs]; exact hx)]
/-- the operand is the part of the result -/
theorem SB.gives1 {w W : World} {b bx gx : Nat} {T l : List UInt8} {v0 v1 v2 v3 : Value} {x : Ex} (h : SB w b bx gx T l v0 v1 v2 v3 x W) (s nm : List UInt8) {o : Out} (ho : o = .ok (.mk s 0 nm [x]) l) :
    PG b T o w (.returned (.agg #[.string (toB s), .int .i64 0, .string (toB nm), .slice (some ⟨W.heap.size, 0, none⟩) 1 1])) ((set4 W bx (.string (toB s)) (.int .i64 0) (.string (toB nm)) (.slice (some ⟨W.heap.size, 0, none⟩) 1 1)).alloc (.cells #[v0, v1, v2, v3] 25)) ∧
      Four ((set4 W bx (.string (toB s)) (.int .i64 0) (.string (toB nm)) (.slice (some ⟨W.heap.size, 0, none⟩) 1 1)).alloc (.cells #[v0, v1, v2, v3] 25)) bx (.string (toB s)) (.int .i64 0) (.string (toB nm)) (.slice (some ⟨W.heap.size, 0, none⟩) 1 1) := by
  have ba := (Below.refl W.heap.size W).alloc (Nat.le_refl _) (.cells #[v0, v1, v2, v3] 25)
  have hne := h.sx.ne
  have hl := h.sx.lt
  rw [← set4_alloc W _ bx _ _ _ _ hl]
  exact (h.sx.below ba).gives (exv_row (exl_one (h.val.mono (fun _ hg _ => ⟨hg.1, hg.2.1⟩)) _) ⟨by omega, by omega⟩ (by simp) (by simp) s nm _ rfl) ho

end Go.Proofs.YtiigclkebnmopaaGreatDoor

namespace Go.Proofs.YtiigclkebnmopaaGreatDoor
open Go.RowKit Go.Shelf

/-- what strings.Contains wants: a number in the first block -/
def MX (b : Nat) (w : World) : Prop := b ≠ 0 ∧ 0 < w.heap.size ∧ ∃ m, w.cell? ⟨0, 0, none⟩ = some (.int .i64 m)
theorem MX.only {b : Nat} {w w' : World} (h : MX b w) (ho : Only b w w') : MX b w' := by
  obtain ⟨h1, h2, m, h3⟩ := h
  exact ⟨h1, Nat.lt_of_lt_of_le h2 ho.size, m, (World.cell?_of_block (a := ⟨0, 0, none⟩) (ho.block 0 h2 (Ne.symm h1))).trans h3⟩
/-- a reading function's contract, at a number of steps -/
def Ctr (fn : FuncId) (K : Kd) (f : Nat) (b : Nat) (T : List UInt8) : Prop := ∀ (l : List UInt8) (W : World), Rd W b T l → MX b W → parse f K l ≠ .none → Calls Tryz.prog fn #[.pointer (some ⟨b, 0, none⟩)] W (PG b T (parse f K l) W)
theorem Ctr.at {fn : FuncId} {K : Kd} {f b : Nat} {T : List UInt8} (h : Ctr fn K f b T) {w : World} (hm : MX b w) : ∀ (l : List UInt8) (W : World), Rd W b T l → Only b w W → parse f K l ≠ .none → Calls Tryz.prog fn #[.pointer (some ⟨b, 0, none⟩)] W (PG b T (parse f K l) W) :=
  fun l W hr ho hn => h l W hr (hm.only ho) hn
def sufK (x : Ex) (l1 : List UInt8) : Out := if sg l1 = [43, 43] ∨ sg l1 = [45, 45] then (if target x = true then .ok (bx (118 :: sg l1) [x]) (aft (sg l1) l1) else .stuck (gap l1)) else .ok x (gap l1)
theorem parse_suf (f : Nat) (l : List UInt8) : parse (f + 1) .suf l = (parse f .prim l).bind sufK := rfl
theorem bind_none {o : Out} {F : Ex → List UInt8 → Out} (h : o.bind F ≠ .none) : o ≠ .none := fun e => h (by rw [e]; rfl)
theorem gap_sign {l : List UInt8} (h : sg l ≠ []) : gap l ≠ [] := fun e => by
  have h1 := takeS_len _ _ _ (sg_some h).2
  rw [e] at h1
  have h2 : 1 ≤ (sg l).length := List.length_pos_iff.2 h
  have h3 : ([] : List UInt8).length = 0 := rfl
  omega
theorem toB_cat (a b : List UInt8) : toB a ++ toB b = toB (a ++ b) := by
  apply ByteArray.ext
  apply Array.toList_inj.1
  simp [toB, ByteArray.data_append]
theorem sg_len (l : List UInt8) : (toB (sg l)).size ≤ 3 := by
  rw [toB_size]
  by_cases h : sg l = []
  · rw [h]; exact Nat.zero_le _
  · have : ∀ s ∈ signs, s.length ≤ 3 := by decide +kernel
    exact this _ (sg_some h).1
set_option maxRecDepth 100000 in
set_option maxHeartbeats 3200000 in
theorem suffix_any (f b : Nat) (T : List UInt8) (hP : Ctr 215 .prim f b T) : Ctr 213 .suf (f + 1) b T := by
  intro l w h hm hn
  rw [parse_suf] at hn ⊢
  have HPr := Lib.hid (hP.at hm l)
  have HNn := Lib.hid (bind_none hn)
  have HX0 := Lib.hid (SX.start h)
  have HSg := Lib.hid (fun l' W hW => sign_any b T l' W hW)
  have HTk := Lib.hid (fun l' s W hW hs => take_any b T l' s W hW hs)
  have hlt := h.lt
  obtain ⟨o, ho⟩ : ∃ o, parse f .prim l = o := ⟨_, rfl⟩
  rw [ho] at HPr HNn ⊢
  obtain ⟨Q, hQ⟩ : ∃ Q, PG b T (o.bind sufK) w = Q := ⟨_, rfl⟩
  rw [hQ]
  have HQ := Lib.hid hQ
  clear hQ h hn ho hP
  go_enter Tryz.func213, Tryz.ntmps213
  go_wp2_with fail
  generalize w.alloc (.cells #[.string ⟨#[]⟩, .int .i64 0, .string ⟨#[]⟩, .slice none 0 0] 25) = w1 at *
  refine (HPr.out _ HX0.out.rd HX0.out.only HNn.out).mono ?_
  intro e w2 hp
  rcases out_cases o with ⟨x, l1, rfl⟩ | hno
  · obtain ⟨v, rfl, hx, hr2, ho2⟩ := hp
    obtain ⟨n, A, k, c, nm, rfl, hnm⟩ := hx.form
    have HB := Lib.hid (HX0.out.box hr2 ho2 hx)
    have HNm := Lib.hid hnm
    clear hx hr2 ho2 hnm HPr HNn
    obtain ⟨bx, hbx⟩ : ∃ bx, w.heap.size = bx := ⟨_, rfl⟩
    rw [hbx] at HB
    simp only [hbx]
    clear hbx HX0
    go_wp2_with fail
    generalize w2.alloc (.cells #[.string (toB x.op), .int .i64 (n : Int), .string (toB nm), .slice A k c] 25) = w3 at *
    generalize w2.heap.size = gx at *
    refine (HSg.out l1 _ HB.out.sx.rd).mono ?_
    rintro e w4 ⟨rfl, hr4, ho4⟩
    have HB4 := Lib.hid (HB.out.step hr4 ho4)
    clear hr4 ho4 HB
    obtain ⟨c0, c1, c2, c3, cf⟩ := HB4.out.four.cells
    obtain ⟨d0, d1, d2, d3, df⟩ := HB4.out.sx.res.cells
    have hsl : (toB (sg l1)).toList = sg l1 := by simp [toB, ByteArray.toList_eq]
    have ht : (x.op == [101] || x.op == [118] && isNm nm) = target x := by rw [HNm.out]; rfl
    by_cases h1 : sg l1 = [43, 43] ∨ sg l1 = [45, 45]
    · have hne : sg l1 ≠ [] := by rcases h1 with h1 | h1 <;> rw [h1] <;> simp
      have HS := Lib.hid (sg_some hne)
      have HGn := Lib.hid (gap_sign hne)
      have hsz := sg_len l1
      have he : ((toB (sg l1)).toList == [43, 43]) = true ∨ (((toB (sg l1)).toList == [43, 43]) = false ∧ ((toB (sg l1)).toList == [45, 45]) = true) := by
        rw [hsl]
        rcases h1 with h1 | h1 <;> rw [h1] <;> simp
      have HO := Lib.hid (show (Out.ok x l1).bind sufK = if target x = true then .ok (Go.Proofs.YtiigclkebnmopaaGreatDoor.bx (118 :: sg l1) [x]) (aft (sg l1) l1) else .stuck (gap l1) by show sufK x l1 = _; unfold sufK; rw [if_pos h1])
      have hcat : (⟨#[118]⟩ : ByteArray) ++ toB (sg l1) = toB (118 :: sg l1) := toB_cat [118] (sg l1)
      have HT := Lib.hid ht
      clear h1 hsl ht hne
      rcases he with he | ⟨he, he'⟩
      all_goals
        go_wp2_with fail
        refine (isTarget_any x.op nm (n : Int) A k c _).mono ?_
        rintro e w5 ⟨rfl, hb5⟩
        rw [HT.out]
        have HB5 := Lib.hid (HB4.out.below hb5)
        clear c0 c1 c2 c3 cf d0 d1 d2 d3 df hb5
        cases htx : target x with
        | true =>
          have HO2 := Lib.hid (HO.out.trans (if_pos htx))
          clear htx
          go_wp2_with fail
          refine (HTk.out (gap l1) (sg l1) _ HB5.out.sx.rd (signs_fine _ HS.out.1).2).mono ?_
          rintro e w6 ⟨rfl, hr6, ho6⟩
          rw [HS.out.2] at hr6 ⊢
          have HB6 := Lib.hid (HB5.out.step hr6 ho6)
          clear hr6 ho6
          obtain ⟨c0, c1, c2, c3, cf⟩ := HB6.out.four.cells
          obtain ⟨d0, d1, d2, d3, df⟩ := HB6.out.sx.res.cells
          have hsz2 : ¬ 9223372036854775807 < 1 + (toB (sg l1)).size := by omega
          have hlt6 := HB6.out.sx.lt
          go_wp2_with fail
          have HE := Lib.hid (HB6.out.gives1 (118 :: sg l1) [] HO2.out)
          obtain ⟨q0, q1, q2, q3, qf⟩ := HE.out.2.cells
          unfold set4 at q0 q1 q2 q3
          rw [show toB [] = (⟨#[]⟩ : ByteArray) from rfl] at q0 q1 q2 q3
          refine bodyPost_ret (v := .agg #[.string (toB (118 :: sg l1)), .int .i64 0, .string ⟨#[]⟩, .slice (some ⟨w6.heap.size, 0, none⟩) 1 1]) (by simp [results, Tryz.results213, go_sem, q0, q1, q2, q3]) rfl ?_
          rw [← HQ.out]
          exact HE.out.1
        | false =>
          have HO2 := Lib.hid (HO.out.trans (if_neg (by rw [htx]; decide)))
          clear htx
          go_wp2_with fail
          refine (wrong_any b T (gap l1) _ HB5.out.sx.rd).mono ?_
          intro e w6 hw
          rw [gap_gap, if_neg HGn.out] at hw
          obtain ⟨rfl, ho6⟩ := hw
          have HO6 := Lib.hid (HB5.out.sx.only.trans ho6)
          clear ho6
          unfold pan
          go_wp2_with fail
          rw [← HQ.out, HO2.out]
          exact ⟨rfl, ⟨rfl, HO6.out⟩⟩
    · have e1 : ((toB (sg l1)).toList == [43, 43]) = false := by rw [hsl, beq_eq_false_iff_ne]; exact fun e => h1 (.inl e)
      have e2 : ((toB (sg l1)).toList == [45, 45]) = false := by rw [hsl, beq_eq_false_iff_ne]; exact fun e => h1 (.inr e)
      have HO := Lib.hid (show (Out.ok x l1).bind sufK = .ok x (gap l1) by show sufK x l1 = _; unfold sufK; rw [if_neg h1])
      clear h1 hsl ht
      go_wp2_with fail
      have HE := Lib.hid (HB4.out.gives HO.out)
      obtain ⟨q0, q1, q2, q3, qf⟩ := HE.out.2.cells
      unfold set4 at q0 q1 q2 q3
      refine bodyPost_ret (v := .agg #[.string (toB x.op), .int .i64 (n : Int), .string (toB nm), .slice A k c]) (by simp [results, Tryz.results213, go_sem, q0, q1, q2, q3]) rfl ?_
      rw [← HQ.out]
      exact HE.out.1
  · obtain ⟨p, c, rfl, ho2, HF⟩ := PG.fail hno hp
    have HO2 := Lib.hid (HX0.out.only.trans ho2)
    have HFF := Lib.hid HF
    clear hp hno ho2 HF HPr HNn
    unfold pan
    go_wp2_with fail
    rw [← HQ.out]
    exact ⟨rfl, HFF.out _ _ HO2.out⟩

end Go.Proofs.YtiigclkebnmopaaGreatDoor
