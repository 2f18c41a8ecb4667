/- The program's Const of a word that lies in memory. -/
import Derived.Test.YtonejkomggpbbabGreatDoorOnly
import Derived.Test.YtonejkomggpbbabGreatDoorArSign
namespace Go.Proofs.YtonejkomggpbbabGreatDoor
open Go.RowKit

/-- a piece of a word, as Const reads it -/
structure PC where
  kind : Int
  text : ByteArray
  subs : List (Int × ByteArray)
def subTot : List (Int × ByteArray) → Nat
  | [] => 0
  | p :: r => p.2.size + subTot r
def totL : List PC → Nat
  | [] => 0
  | p :: r => p.text.size + subTot p.subs + totL r
def subL (acc : ByteArray) : List (Int × ByteArray) → Option ByteArray
  | [] => some acc
  | p :: r => if p.1 = 5 then subL (acc ++ p.2) r else none
def constL (acc : ByteArray) : List PC → ByteArray × Bool
  | [] => (acc, true)
  | p :: r => if p.kind = 1 ∨ p.kind = 2 ∨ p.kind = 3 then constL (acc ++ p.text) r else if p.kind = 4 then (match subL acc p.subs with | some a => constL a r | none => (⟨#[]⟩, false)) else (⟨#[]⟩, false)

/-- a piece in memory: six cells -/
def PieceAt (w : World) (b o : Nat) (k : Int) (t : ByteArray) (parts : Value) : Prop :=
  ∃ p3 p4 p5 : Option Addr, w.cell? ⟨b, o, none⟩ = some (.int .i64 k) ∧ w.cell? ⟨b, o + 1, none⟩ = some (.string t) ∧ w.cell? ⟨b, o + 2, none⟩ = some parts ∧ w.cell? ⟨b, o + 3, none⟩ = some (.pointer p3) ∧ w.cell? ⟨b, o + 4, none⟩ = some (.pointer p4) ∧ w.cell? ⟨b, o + 5, none⟩ = some (.pointer p5)
theorem PieceAt.keep {w w' : World} {b o : Nat} {k : Int} {t : ByteArray} {parts : Value} (h : PieceAt w b o k t parts) (hl : b < w.heap.size) (hb : Below w.heap.size w w') : PieceAt w' b o k t parts := by
  obtain ⟨p3, p4, p5, h0, h1, h2, h3, h4, h5⟩ := h
  exact ⟨p3, p4, p5, (hb.cell (p := ⟨b, o, none⟩) hl).trans h0, (hb.cell (p := ⟨b, o + 1, none⟩) hl).trans h1, (hb.cell (p := ⟨b, o + 2, none⟩) hl).trans h2, (hb.cell (p := ⟨b, o + 3, none⟩) hl).trans h3, (hb.cell (p := ⟨b, o + 4, none⟩) hl).trans h4, (hb.cell (p := ⟨b, o + 5, none⟩) hl).trans h5⟩
/-- the parts of a piece in memory -/
def SubM (w : World) (v : Value) (l : List (Int × ByteArray)) : Prop :=
  ∃ A c, v = .slice A l.length c ∧ (0 < l.length → ∃ b off, A = some ⟨b, off, none⟩ ∧ b < w.heap.size ∧ ∀ j (h : j < l.length), ∃ A2 n2 c2, PieceAt w b (off + j * 6) l[j].1 l[j].2 (.slice A2 n2 c2))
theorem SubM.keep {w w' : World} {v : Value} {l : List (Int × ByteArray)} (h : SubM w v l) (hb : Below w.heap.size w w') : SubM w' v l := by
  obtain ⟨A, c, rfl, h⟩ := h
  refine ⟨A, c, rfl, fun hn => ?_⟩
  obtain ⟨b, off, rfl, hl, hp⟩ := h hn
  exact ⟨b, off, rfl, Nat.lt_of_lt_of_le hl hb.size, fun j hj => by obtain ⟨A2, n2, c2, h⟩ := hp j hj; exact ⟨A2, n2, c2, h.keep hl hb⟩⟩
/-- a word in memory -/
def WM (w : World) (v : Value) (l : List PC) : Prop :=
  ∃ A c, v = .slice A l.length c ∧ (0 < l.length → ∃ b off, A = some ⟨b, off, none⟩ ∧ b < w.heap.size ∧ ∀ j (h : j < l.length), ∃ parts, PieceAt w b (off + j * 6) l[j].kind l[j].text parts ∧ SubM w parts l[j].subs)
theorem WM.keep {w w' : World} {v : Value} {l : List PC} (h : WM w v l) (hb : Below w.heap.size w w') : WM w' v l := by
  obtain ⟨A, c, rfl, h⟩ := h
  refine ⟨A, c, rfl, fun hn => ?_⟩
  obtain ⟨b, off, rfl, hl, hp⟩ := h hn
  exact ⟨b, off, rfl, Nat.lt_of_lt_of_le hl hb.size, fun j hj => by obtain ⟨ps, h1, h2⟩ := hp j hj; exact ⟨ps, h1.keep hl hb, h2.keep hb⟩⟩
theorem totL_drop (l : List PC) (k : Nat) (h : k < l.length) : totL (l.drop k) = l[k].text.size + subTot l[k].subs + totL (l.drop (k + 1)) := by
  rw [List.drop_eq_getElem_cons h]; rfl
theorem subTot_drop (l : List (Int × ByteArray)) (k : Nat) (h : k < l.length) : subTot (l.drop k) = l[k].2.size + subTot (l.drop (k + 1)) := by
  rw [List.drop_eq_getElem_cons h]; rfl

set_option maxRecDepth 100000 in
set_option maxHeartbeats 3200000 in
theorem const_some (l : List PC) (v : Value) (w : World) (hl0 : 0 < l.length) (hv : WM w v l) (hn : l.length ≤ 1000000) (ht : totL l ≤ 1000000000) (hs : ∀ p ∈ l, p.subs.length ≤ 1000000) :
    Calls Tryz.prog 9 #[v] w fun e w' => e = .returned (.tuple #[.string (constL ⟨#[]⟩ l).1, .bool (constL ⟨#[]⟩ l).2]) ∧ Below w.heap.size w w' := by
  obtain ⟨ANS, hANS⟩ : ∃ ANS, constL ⟨#[]⟩ l = ANS := ⟨_, rfl⟩
  rw [hANS]
  have HA := Lib.hid hANS
  have HSub := Lib.hid hs
  obtain ⟨A, c, rfl, hz⟩ := hv
  obtain ⟨b, off, rfl, hbl, hp⟩ := hz hl0
  have HP := Lib.hid hp
  clear hz hANS hs hp
  go_enter Tryz.func9, Tryz.ntmps9
  go_wp2_with fail
  go_loopw [4, 11] (fun s4 i wr => ∃ (k : Nat) (o : ByteArray), s4 = .string o ∧ i = .int .i64 (k : Int) ∧ k ≤ l.length ∧ o.size + totL (l.drop k) ≤ 1000000000 ∧ Hid (constL o (l.drop k) = ANS) ∧ Hid (Below w.heap.size w wr)) (fun _ i _ => l.length - (intOf i).toNat)
  case atStart => exact ⟨0, ⟨#[]⟩, rfl, rfl, Nat.zero_le _, by rw [List.drop_zero]; show 0 + totL l ≤ 1000000000; omega, by rw [List.drop_zero]; exact HA.out, Below.refl _ _⟩
  case round =>
    obtain ⟨k, o, rfl, rfl, hk, hsz, HE, HB⟩ := hrel
    by_cases hlt : k < l.length
    · obtain ⟨parts, hpa, hsub0⟩ := HP.out k hlt
      have hl : b < wr.heap.size := Nat.lt_of_lt_of_le hbl HB.out.size
      obtain ⟨p3, p4, p5, h0, h1, h2, h3, h4, h5⟩ := hpa.keep hbl HB.out
      have hsub := hsub0.keep HB.out
      clear hpa hsub0
      have htd := totL_drop l k hlt
      have hE2 := HE.out
      rw [List.drop_eq_getElem_cons hlt] at hE2
      have hsl := HSub.out l[k] (List.getElem_mem hlt)
      obtain ⟨kd, hkd⟩ : ∃ kd, l[k].kind = kd := ⟨_, rfl⟩
      obtain ⟨tx, htx⟩ : ∃ tx, l[k].text = tx := ⟨_, rfl⟩
      obtain ⟨sb, hsb⟩ : ∃ sb, l[k].subs = sb := ⟨_, rfl⟩
      unfold constL at hE2
      rw [hkd, htx, hsb] at hE2
      rw [hkd] at h0
      rw [htx] at h1
      rw [hsb] at hsub hsl
      rw [htx, hsb] at htd
      have HE2 := Lib.hid hE2
      have HSM := Lib.hid hsub
      obtain ⟨A2, c2, rfl, hsz2⟩ := hsub
      clear hsz2 hE2 hkd htx hsb
      have hkk : (kd = 1 ∨ kd = 2 ∨ kd = 3) ∨ kd = 4 ∨ (¬ (kd = 1 ∨ kd = 2 ∨ kd = 3) ∧ ¬ kd = 4) := by omega
      rcases hkk with hk3 | hk4 | hk5
      · have hE3 := HE2.out
        rw [if_pos hk3] at hE3
        have HE3 := Lib.hid hE3
        clear hE3 HE2
        rcases hk3 with rfl | rfl | rfl
        all_goals
          go_wp2_with fail
          go_roundw
          case rel =>
            refine ⟨k + 1, o ++ tx, rfl, by go_num, by omega, ?_, HE3.out, HB.out.alloc HB.out.size _⟩
            rw [ByteArray.size_append]; omega
          case measure => simp [intOf]; omega
      · obtain ⟨SA, hSA⟩ : ∃ SA, subL o sb = SA := ⟨_, rfl⟩
        have hE3 := HE2.out
        rw [if_neg (by omega), if_pos hk4, hSA] at hE3
        have HE3 := Lib.hid hE3
        have HSA := Lib.hid hSA
        subst hk4
        have HBa := Lib.hid (HB.out.alloc HB.out.size (.cells #[.int .i64 4, .string tx, .slice A2 sb.length c2, .pointer p3, .pointer p4, .pointer p5] 68))
        have HSM2 := Lib.hid (HSM.out.keep ((Below.refl _ wr).alloc (Nat.le_refl _) (.cells #[.int .i64 4, .string tx, .slice A2 sb.length c2, .pointer p3, .pointer p4, .pointer p5] 68)))
        have hgo : o.size + subTot sb + totL (l.drop (k + 1)) ≤ 1000000000 := by omega
        clear hE3 HE2 hSA hsz htd HSM HE
        go_wp2_with fail
        have hp0 : ∀ j, (wr.alloc (.cells #[.int .i64 4, .string tx, .slice A2 sb.length c2, .pointer p3, .pointer p4, .pointer p5] 68)).heap.size = wr.heap.size + 1 + 0 * j := fun j => by simp
        clear hp0 h0 h1 h2 h3 h4 h5
        generalize wr.alloc (.cells #[.int .i64 4, .string tx, .slice A2 sb.length c2, .pointer p3, .pointer p4, .pointer p5] 68) = wo at *
        generalize wr.heap.size = gx at *
        rcases Nat.eq_zero_or_pos sb.length with hs0 | hs0
        · have hsb0 : sb = [] := List.length_eq_zero_iff.1 hs0
          subst hsb0
          have hSA2 : SA = some o := HSA.out.symm
          subst hSA2
          have HE4 := Lib.hid (show constL o (l.drop (k + 1)) = ANS from HE3.out)
          clear HE3
          simp only [List.length_nil] at *
          go_loopw [4, 30] (fun s4 i wx => s4 = .string o ∧ i = .int .i64 0 ∧ Hid (Below w.heap.size w wx)) (fun _ _ _ => 0)
          case atStart => exact ⟨rfl, rfl, HBa.out⟩
          case round =>
            obtain ⟨rfl, rfl, HBx⟩ := hrel
            go_wp2_with fail
            go_roundw
            case rel => exact ⟨k + 1, o, rfl, by go_num, by omega, by unfold subTot at hgo; omega, HE4, HBx⟩
            case measure => simp [intOf]; omega
        · obtain ⟨A9, c9, he9, hz9⟩ := HSM2.out
          obtain ⟨b2, off2, hA9, hbl2, hp2⟩ := hz9 hs0
          injection he9 with ea eb ec
          subst hA9
          subst ea
          clear eb
          have HP2 := Lib.hid hp2
          clear hp2 hz9 ec
          go_loopw [4, 30] (fun s4 i wx => ∃ (j : Nat) (o2 : ByteArray), s4 = .string o2 ∧ i = .int .i64 (j : Int) ∧ j ≤ sb.length ∧ o2.size + subTot (sb.drop j) + totL (l.drop (k + 1)) ≤ 1000000000 ∧ Hid (subL o2 (sb.drop j) = SA) ∧ Hid (Below wo.heap.size wo wx)) (fun _ i _ => sb.length - (intOf i).toNat)
          case atStart => exact ⟨0, o, rfl, rfl, Nat.zero_le _, by rw [List.drop_zero]; exact hgo, by rw [List.drop_zero]; exact HSA.out, Below.refl _ _⟩
          case round =>
            obtain ⟨j, o2, rfl, rfl, hj, hsz3, HEj, HBx⟩ := hrel
            have HBw := Lib.hid (HBa.out.trans (HBx.out.mono HBa.out.size))
            by_cases hlj : j < sb.length
            · obtain ⟨A7, n7, c7, hp7⟩ := HP2.out j hlj
              have hl2 : b2 < wr.heap.size := Nat.lt_of_lt_of_le hbl2 HBx.out.size
              obtain ⟨q3, q4, q5, g0, g1, g2, g3, g4, g5⟩ := hp7.keep hbl2 HBx.out
              have hst := subTot_drop sb j hlj
              have hE5 := HEj.out
              rw [List.drop_eq_getElem_cons hlj] at hE5
              unfold subL at hE5
              have HE5 := Lib.hid hE5
              clear hE5 hp7 HEj
              generalize sb[j].1 = sk at *
              generalize sb[j].2 = stx at *
              have HB7 := Lib.hid (HBx.out.alloc HBx.out.size (.cells #[.int .i64 sk, .string stx, .slice A7 n7 c7, .pointer q3, .pointer q4, .pointer q5] 68))
              have HB8 := Lib.hid (HBw.out.alloc HBw.out.size (.cells #[.int .i64 sk, .string stx, .slice A7 n7 c7, .pointer q3, .pointer q4, .pointer q5] 68))
              by_cases h5 : sk = 5
              · have hE6 := HE5.out
                rw [if_pos h5] at hE6
                have HE6 := Lib.hid hE6
                subst h5
                clear hE6 HE5
                go_wp2_with fail
                go_roundw
                case rel => exact ⟨j + 1, o2 ++ stx, rfl, by go_num, by omega, by rw [ByteArray.size_append]; omega, HE6, HB7⟩
                case measure => simp [intOf]; omega
              · have hE6 := HE5.out
                rw [if_neg h5] at hE6
                have hE7 := HE3.out
                rw [← hE6] at hE7
                have HE7 := Lib.hid hE7
                have e5 : (sk == 5) = false := by rw [beq_eq_false_iff_ne]; exact h5
                clear hE6 hE7 HE5 h5
                go_wp2_with fail
                go_ret2
                exact ⟨by rw [← HE7.out]; rfl, HB8.out⟩
            · have hje : j = sb.length := by omega
              have hE6 := HEj.out
              rw [hje, List.drop_length] at hE6
              have hE7 := HE3.out
              rw [← hE6] at hE7
              have HE7 := Lib.hid (show constL o2 (l.drop (k + 1)) = ANS from hE7)
              clear hE6 hE7 hje
              go_wp2_with fail
              go_roundw
              case rel => exact ⟨k + 1, o2, rfl, by go_num, by omega, by omega, HE7, HBw⟩
              case measure => simp [intOf]; omega
      · have hE3 := HE2.out
        rw [if_neg hk5.1, if_neg hk5.2] at hE3
        have HE3 := Lib.hid hE3
        have e1 : (kd == 1) = false := by rw [beq_eq_false_iff_ne]; omega
        have e2 : (kd == 2) = false := by rw [beq_eq_false_iff_ne]; omega
        have e3 : (kd == 3) = false := by rw [beq_eq_false_iff_ne]; omega
        have e4 : (kd == 4) = false := by rw [beq_eq_false_iff_ne]; omega
        clear hE3 HE2 hk5
        go_wp2_with fail
        go_ret2
        exact ⟨by rw [← HE3.out]; rfl, HB.out.alloc HB.out.size _⟩
    · have hkl : k = l.length := by omega
      have hE2 : (o, true) = ANS := by
        have h := HE.out
        rw [hkl, List.drop_length] at h
        exact h
      have HE2 := Lib.hid hE2
      clear hE2
      go_wp2_with fail
      go_ret2
      exact ⟨by rw [← HE2.out]; rfl, HB.out⟩

set_option maxRecDepth 100000 in
set_option maxHeartbeats 800000 in
theorem const_none (v : Value) (w : World) (hv : WM w v []) :
    Calls Tryz.prog 9 #[v] w fun e w' => e = .returned (.tuple #[.string ⟨#[]⟩, .bool true]) ∧ Below w.heap.size w w' := by
  obtain ⟨A, c, rfl, hz⟩ := hv
  clear hz
  simp only [List.length_nil] at *
  go_enter Tryz.func9, Tryz.ntmps9
  go_wp2_with fail
  go_loopw [4, 11] (fun s4 i wr => s4 = .string ⟨#[]⟩ ∧ i = .int .i64 0 ∧ wr = w) (fun _ _ _ => 0)
  case atStart => exact ⟨rfl, rfl, rfl⟩
  case round =>
    obtain ⟨rfl, rfl, rfl⟩ := hrel
    go_wp2_with fail
    go_ret2
    exact ⟨rfl, Below.refl _ _⟩
theorem const_any (l : List PC) (v : Value) (w : World) (hv : WM w v l) (hn : l.length ≤ 1000000) (ht : totL l ≤ 1000000000) (hs : ∀ p ∈ l, p.subs.length ≤ 1000000) :
    Calls Tryz.prog 9 #[v] w fun e w' => e = .returned (.tuple #[.string (constL ⟨#[]⟩ l).1, .bool (constL ⟨#[]⟩ l).2]) ∧ Below w.heap.size w w' := by
  rcases Nat.eq_zero_or_pos l.length with h | h
  · have h0 := List.length_eq_zero_iff.1 h
    subst h0
    exact const_none v w hv
  · exact const_some l v w h hv hn ht hs

end Go.Proofs.YtonejkomggpbbabGreatDoor
