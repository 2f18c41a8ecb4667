/- TopMerged: the lists are looked at (listed); the end of a hunk. -/
import Derived.Test.YtpnnojepbmpfiaaDoorTmMem
import Derived.LoopN
namespace Go.Proofs.YtpnnojepbmpfiaaDoor
open Go.RowKit

def goodLine (s : ByteArray) : Prop := s.size ≤ 4096 ∧ ¬ 0 ≤ Lib.indexByte s.data.toList 10
def goodLs (l : List ByteArray) : Prop := l.length ≤ 1000 ∧ ∀ s ∈ l, goodLine s
/-- slices of texts, where they lie -/
def SLs (g : Nat) (Ls : List (List ByteArray)) (w : World) : Prop := ∀ i (h : i < Ls.length), ∃ A n c, w.cell? ⟨g, i, none⟩ = some (.slice A n c) ∧ SL w (.slice A n c) Ls[i]
set_option maxRecDepth 100000 in
set_option maxHeartbeats 3200000 in
theorem listed_any (Ls : List (List ByteArray)) (g k c : Nat) (w : World) (hk : Ls.length = k) (hk3 : k ≤ 100) (hL : SLs g Ls w) (hsz : ∀ l ∈ Ls, l.length ≤ 9223372036854775807) :
    Calls Tryd.prog 11 #[.slice (some ⟨g, 0, none⟩) k c] w fun e w' => ∃ n : Int, e = .returned (.int .i64 n) ∧ (n = 0 ↔ ∀ l ∈ Ls, goodLs l) ∧ w' = w := by
  have HL := Lib.hid hL
  have HK := Lib.hid hk
  have HS := Lib.hid hsz
  have HC := Lib.hid (fun s W => Tryd.strings_Contains_one s 10 W)
  clear hL hk hsz
  go_enter Tryd.func11, Tryd.ntmps11
  go_wp2_with fail
  go_loopw [9] (fun s9 wr => ∃ i : Nat, s9 = .int .i64 (i : Int) ∧ Hid (i ≤ k) ∧ Hid (∀ j (h : j < Ls.length), j < i → goodLs Ls[j]) ∧ wr = w) (fun s9 _ => k - (intOf s9).toNat)
  case atStart => exact ⟨0, rfl, Lib.hid (Nat.zero_le _), Lib.hid (fun j _ h => absurd h (Nat.not_lt_zero _)), rfl⟩
  case round =>
    obtain ⟨i, rfl, HI, HG, rfl⟩ := hrel
    by_cases hlt : i < k
    · have hltz : (i : Int) < (k : Int) := Int.ofNat_lt.2 hlt
      have hiL : i < Ls.length := by rw [HK.out]; exact hlt
      obtain ⟨A, n, cc, hcell, hsl⟩ := HL.out i hiL
      have hn := hsl.len
      have hmem := List.getElem_mem hiL
      have HSz := Lib.hid (HS.out _ hmem)
      have HM := Lib.hid hmem
      have HNext := Lib.hid (fun (hg : goodLs Ls[i]) j (h : j < Ls.length) (hji : j < i + 1) => (show goodLs Ls[j] by
        by_cases e : j = i
        · subst e; exact hg
        · exact HG.out j h (by omega)))
      generalize Ls[i] = l at *
      have HN := Lib.hid hn
      have HSl := Lib.hid hsl
      have hn63 : n ≤ 9223372036854775807 := by have := HSz.out; omega
      clear hsl hmem hiL hn
      by_cases hbig : n > 1000
      · have hbz : (n : Int) > 1000 := by omega
        have HB := Lib.hid hbig
        clear hbig
        go_wp2_with fail
        go_ret
        exact ⟨2, rfl, ⟨fun h => absurd h (by decide), fun h => absurd ((h l HM.out).1) (by have := HB.out; have := HN.out; omega)⟩, rfl⟩
      · have hbz : ¬ (n : Int) > 1000 := by omega
        have HB := Lib.hid hbig
        clear hbig
        go_wp2_with fail
        go_loopw [18] (fun s18 wx => ∃ j : Nat, s18 = .int .i64 (j : Int) ∧ Hid (j ≤ n) ∧ Hid (∀ q (h : q < l.length), q < j → goodLine l[q]) ∧ wx = wr) (fun s18 _ => n - (intOf s18).toNat)
        case atStart => exact ⟨0, rfl, Lib.hid (Nat.zero_le _), Lib.hid (fun j _ h => absurd h (Nat.not_lt_zero _)), rfl⟩
        case round =>
          obtain ⟨j, rfl, HJ, HGj, rfl⟩ := hrel
          by_cases hjn : j < n
          · have hjz : (j : Int) < (n : Int) := Int.ofNat_lt.2 hjn
            have hjl : j < l.length := by rw [← HN.out]; exact hjn
            obtain ⟨A', c', hv, _, hcs⟩ := HSl.out
            injection hv with e1 e2 e3
            obtain ⟨b, off, eA, _, hcell2⟩ := hcs (by omega)
            rw [eA] at e1
            subst e1
            have hc1 := hcell2 j hjl
            have HMj := Lib.hid (List.getElem_mem hjl)
            have HNj := Lib.hid (fun (hg : goodLine l[j]) q (h : q < l.length) (hqj : q < j + 1) => (show goodLine l[q] by
              by_cases e : q = j
              · subst e; exact hg
              · exact HGj.out q h (by omega)))
            generalize l[j] = s at *
            clear hcs hcell2 e2 e3 eA hjl
            by_cases hls : s.size > 4096
            · have hlz : (s.size : Int) > 4096 := by omega
              have HLs := Lib.hid hls
              clear hls
              go_wp2_with fail
              go_ret
              exact ⟨2, rfl, ⟨fun h => absurd h (by decide), fun h => absurd (((h l HM.out).2 s HMj.out).1) (by have := HLs.out; omega)⟩, rfl⟩
            · have hlz : ¬ (s.size : Int) > 4096 := by omega
              have HLs := Lib.hid hls
              clear hls
              go_wp2_with fail
              refine (HC.out s _).mono ?_
              rintro e w3 ⟨rfl, rfl⟩
              by_cases hct : 0 ≤ Lib.indexByte s.data.toList 10
              · rw [decide_eq_true hct]
                have HCt := Lib.hid hct
                clear hct
                go_wp2_with fail
                go_ret
                exact ⟨5, rfl, ⟨fun h => absurd h (by decide), fun h => absurd HCt.out ((h l HM.out).2 s HMj.out).2⟩, rfl⟩
              · rw [decide_eq_false hct]
                have HG2 := Lib.hid (HNj.out ⟨by have := HLs.out; omega, hct⟩)
                clear hct
                go_wp2_with fail
                exact ⟨⟨j + 1, by go_num, Lib.hid hjn, HG2, trivial⟩, by simp [intOf]; omega⟩
          · have hjz : ¬ (j : Int) < (n : Int) := fun h => hjn (Int.ofNat_lt.1 h)
            have HGl := Lib.hid (HNext.out ⟨by have := HB.out; have := HN.out; omega, fun s hs => by
              obtain ⟨q, hq, rfl⟩ := List.getElem_of_mem hs
              exact HGj.out q hq (by have := HN.out; omega)⟩)
            clear hjn
            go_wp2_with fail
            exact ⟨⟨i + 1, by go_num, Lib.hid hlt, HGl, trivial⟩, by simp [intOf]; omega⟩
    · have hnz : ¬ (i : Int) < (k : Int) := fun h => hlt (Int.ofNat_lt.1 h)
      have HF := Lib.hid (show ∀ l ∈ Ls, goodLs l from fun l hl => by
        obtain ⟨j, hj, rfl⟩ := List.getElem_of_mem hl
        exact HG.out j hj (by have := HK.out; omega))
      clear hlt
      go_wp2_with fail
      go_ret
      exact ⟨0, rfl, ⟨fun _ => HF.out, fun _ => rfl⟩, rfl⟩
set_option maxHeartbeats 800000 in
theorem end_any (e : EV) (h : HK) (w : World) (hh : IsHK w e h) (h1 : h.fr ≤ 1000000) (h2 : h.old.length ≤ 1000000) :
    Calls Tryd.prog 27 #[aggE e] w fun en w' => en = .returned (.int .i64 (h.fin : Int)) ∧ Below w.heap.size w w' := by
  have ho := hh.old.len
  have hf := hh.fr
  obtain ⟨x0, x1, ⟨xA, xn, xc⟩, ⟨xB, xm, xd⟩⟩ := e
  dsimp only at ho hf
  subst hf
  have HF := Lib.hid (show (h.fin : Int) = (h.fr : Int) + (xn : Int) by unfold HK.fin; omega)
  have hx : xn ≤ 1000000 := by omega
  generalize h.fr = q at *
  clear hh ho
  unfold aggE
  dsimp only [k0, k1, k2, k3]
  go_enter Tryd.func27, Tryd.ntmps27
  go_wp2
  go_ret
  exact ⟨ret_int (by rw [HF.out]), (Below.refl _ w).alloc (Nat.le_refl _) _⟩
end Go.Proofs.YtpnnojepbmpfiaaDoor
