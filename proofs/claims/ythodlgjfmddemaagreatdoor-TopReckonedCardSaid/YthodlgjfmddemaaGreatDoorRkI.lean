/- Reading a decimal: the cut at the full stop, the sign. -/
import Derived.Test.YthodlgjfmddemaaGreatDoorRkH
namespace Go.Proofs.YthodlgjfmddemaaGreatDoor.Rk
open Go.RowKit

theorem dot_none : ∀ {s : List UInt8}, ¬ (46 : UInt8) ∈ s → Lib.indexByte s 46 = -1
  | [], _ => rfl
  | c :: s, h => by
    have hc : c ≠ 46 := fun e => h (by rw [e]; exact List.mem_cons_self ..)
    have ih := dot_none (s := s) fun e => h (List.mem_cons_of_mem _ e)
    unfold Lib.indexByte
    rw [if_neg (by simpa using hc), if_pos (by rw [ih]; rfl)]
theorem dot_some : ∀ {s : List UInt8}, (46 : UInt8) ∈ s → ∃ i : Nat, Lib.indexByte s 46 = i ∧ i < s.length ∧ s.takeWhile (· ≠ 46) = s.take i ∧ (s.dropWhile (· ≠ 46)).drop 1 = s.drop (i + 1)
  | [], h => by cases h
  | c :: s, h => by
    by_cases hc : c = 46
    · subst hc
      refine ⟨0, ?_, Nat.succ_pos _, ?_, ?_⟩
      · unfold Lib.indexByte
        rw [if_pos (by rfl)]
        try rfl
      · rw [List.takeWhile_cons, if_neg (by simp)]; rfl
      · rw [List.dropWhile_cons, if_neg (by simp)]
    · have hm : (46 : UInt8) ∈ s := (List.mem_cons.1 h).resolve_left fun e => hc e.symm
      obtain ⟨i, h1, h2, h3, h4⟩ := dot_some hm
      refine ⟨i + 1, ?_, Nat.succ_lt_succ h2, ?_, ?_⟩
      · unfold Lib.indexByte
        rw [if_neg (by simpa using hc), if_neg (by rw [h1]; simp), h1]
        rfl
      · rw [List.takeWhile_cons, if_pos (by simpa using hc), h3]; rfl
      · rw [List.dropWhile_cons, if_pos (by simpa using hc), h4]; rfl
def CutP (s : List UInt8) (w : World) (e : Ending) (w' : World) : Prop := e = .returned (.tuple #[.string (toB (cutDot s).1), .string (toB (cutDot s).2.1), .bool (cutDot s).2.2]) ∧ Below w.heap.size w w'
set_option maxRecDepth 100000 in
set_option maxHeartbeats 1600000 in
theorem scut_any (s : List UInt8) (w : World) (hs : s.length ≤ 9223372036854775807) :
    Calls Tryz.prog 18 #[.string (toB s), .string ⟨#[46]⟩] w (CutP s w) := by
  have HI := Lib.hid (fun W => Tryz.stringslite_Index_one (toB s) 46 W)
  have hdl : (toB s).data.toList = s := rfl
  have hsz := toB_size s
  by_cases hd : (46 : UInt8) ∈ s
  · obtain ⟨i, h1, h2, h3, h4⟩ := dot_some hd
    have hc : cutDot s = (s.take i, s.drop (i + 1), true) := by unfold cutDot; rw [if_pos hd, h3, h4]
    rw [hdl, h1] at HI
    obtain ⟨n, hn⟩ : ∃ n, n = s.length := ⟨_, rfl⟩
    rw [← hn] at hs hsz h2
    have x1 : (toB s).extract 0 i = toB (s.take i) := by rw [toB_ext]; rfl
    have x2 : (toB s).extract (i + 1) n = toB (s.drop (i + 1)) := by rw [toB_ext, List.take_of_length_le (by rw [List.length_drop, hn]; exact Nat.le_refl _)]
    have HQ := Lib.hid (fun W (h : Below w.heap.size w W) => (show CutP s w (.returned (.tuple #[.string (toB (s.take i)), .string (toB (s.drop (i + 1))), .bool true])) W from ⟨by rw [hc], h⟩))
    have HB := Lib.hid (fun n => below_drewN (Below.refl w.heap.size w) n)
    have e1 : IntKind.i64.wrap ((i : Int) + 1) = ((i + 1 : Nat) : Int) := IntWalk.i64_in _ (by omega)
    have e2 : IntKind.i64.wrap ((i : Int) + 1) = (i : Int) + 1 := IntWalk.i64_in _ (by omega)
    have b0 : (i : Int) ≥ 0 := by omega
    have b1 : 0 ≤ (i : Int) := by omega
    have b2 : (i : Int) ≤ (n : Int) := by omega
    have b3 : i ≤ n := by omega
    have b4 : ((i + 1 : Nat) : Int) ≤ (n : Int) := by omega
    have b5 : (i : Int) + 1 ≤ (n : Int) := by omega
    have b6 : i + 1 ≤ n := by omega
    have b7 : 0 ≤ (i : Int) + 1 := by omega
    have b8 : ((i : Int) + 1).toNat = i + 1 := by omega
    generalize s.take i = P at *
    generalize s.drop (i + 1) = R at *
    generalize CutP s w = Q at *
    clear hc h3 h4 h1 hd hdl hn
    go_enter Tryz.func18, Tryz.ntmps18
    go_upto_region 1 with fail
    go_wp2_with (go_at_call 33; refine (HI.out _).mono ?_; rintro e w2 ⟨rfl, rfl⟩)
    go_wp2_with fail
    go_region
    go_wp2_with fail
    exact bodyPost_ret (v := .tuple #[.string (toB P), .string (toB R), .bool true]) (by simp [results, Tryz.results18, go_sem]) rfl (HQ.out _ (HB.out _))
  · have hc : cutDot s = (s, [], false) := by unfold cutDot; rw [if_neg hd]
    rw [hdl, dot_none hd] at HI
    have HQ := Lib.hid (fun W (h : Below w.heap.size w W) => (show CutP s w (.returned (.tuple #[.string (toB s), .string ⟨#[]⟩, .bool false])) W from ⟨by rw [hc]; rfl, h⟩))
    have HB := Lib.hid (fun n => below_drewN (Below.refl w.heap.size w) n)
    generalize CutP s w = Q at *
    clear hc hd hdl hsz
    go_enter Tryz.func18, Tryz.ntmps18
    go_upto_region 1 with fail
    go_wp2_with (go_at_call 33; refine (HI.out _).mono ?_; rintro e w2 ⟨rfl, rfl⟩)
    go_wp2_with fail
    exact bodyPost_ret (v := .tuple #[.string (toB s), .string ⟨#[]⟩, .bool false]) (by simp [results, Tryz.results18, go_sem]) rfl (HQ.out _ (Below.refl _ _))
set_option maxRecDepth 100000 in
set_option maxHeartbeats 1600000 in
theorem stcut_any (s : List UInt8) (w : World) (hs : s.length ≤ 9223372036854775807) :
    Calls Tryz.prog 7 #[.string (toB s), .string ⟨#[46]⟩] w (CutP s w) := by
  have HC := Lib.hid (fun W => scut_any s W hs)
  obtain ⟨P, hP⟩ : ∃ P, P = toB (cutDot s).1 := ⟨_, rfl⟩
  obtain ⟨R, hR⟩ : ∃ R, R = toB (cutDot s).2.1 := ⟨_, rfl⟩
  obtain ⟨d, hd⟩ : ∃ d, d = (cutDot s).2.2 := ⟨_, rfl⟩
  unfold CutP at HC ⊢
  rw [← hP, ← hR, ← hd] at HC ⊢
  clear hP hR hd
  go_enter Tryz.func7, Tryz.ntmps7
  go_wp2_with fail
  refine (HC.out _).mono ?_
  rintro e w2 ⟨rfl, hb⟩
  have HB := Lib.hid hb
  clear hb
  go_wp2_with fail
  exact bodyPost_ret (v := .tuple #[.string P, .string R, .bool d]) (by simp [results, Tryz.results7, go_sem]) rfl ⟨rfl, HB.out⟩
end Go.Proofs.YthodlgjfmddemaaGreatDoor.Rk
