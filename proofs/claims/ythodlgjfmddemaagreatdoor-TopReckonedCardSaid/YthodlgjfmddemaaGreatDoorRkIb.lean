/- Numbers by limbs: a number that is read is new memory. -/
import Derived.Test.YthodlgjfmddemaaGreatDoorRkI
namespace Go.Proofs.YthodlgjfmddemaaGreatDoor.Rk
open Go.RowKit

/-- what it points to is as new as B -/
def Fresh (B : Nat) (v : Value) : Prop := ∀ ad n c, v = .slice (some ad) n c → B ≤ ad.block
theorem Fresh.none (B n c : Nat) : Fresh B (.slice Option.none n c) := fun _ _ _ e => by injection e with e1 _ _; cases e1
theorem Fresh.le {B B' : Nat} {v : Value} (h : Fresh B v) (hb : B' ≤ B) : Fresh B' v := fun ad n c e => Nat.le_trans hb (h ad n c e)
set_option maxRecDepth 100000 in
set_option maxHeartbeats 3200000 in
theorem naturalOf_fresh (D : List UInt8) (w : World) (hd : isDig D) (hl : D.length ≤ 140737488355328) :
    Calls Tryz.prog 50 #[.string (toB D)] w fun e w' => ∃ r, e = .returned r ∧ NL w' r (nval D) ∧ Below w.heap.size w w' ∧ Fresh w.heap.size r := by
  have hsz := toB_size D
  obtain ⟨l, hll⟩ : ∃ l, l = D.length := ⟨_, rfl⟩
  rw [← hll] at hsz hl
  have HLL := Lib.hid hll
  have HD := Lib.hid hd
  obtain ⟨i0, hi, hz0, hz1, hz2⟩ := info_parts infoU32
  clear hll hd
  go_enter Tryz.func50, Tryz.ntmps50
  go_wp2_with fail
  go_loopw [3, 4] (fun s3 s4 wr => ∃ (k : Nat) (vo : Value), s3 = vo ∧ s4 = .int .i64 ((l : Int) - 9 * (k : Int)) ∧ Hid (9 * k ≤ l + 8) ∧ Hid (NO w vo k (nval D) wr)) (fun _ s4 _ => (intOf s4).toNat)
  case atStart => exact ⟨0, .slice none 0 0, rfl, by simp, Lib.hid (by omega), Lib.hid (NO.start _ _)⟩
  case round =>
    obtain ⟨k, vo, rfl, rfl, HK, HO⟩ := hrel
    obtain ⟨A, c, rfl⟩ := HO.out.form
    by_cases hlt : 9 * k < l
    case neg =>
      have hz : ¬ ((l : Int) - 9 * (k : Int) > 0) := by omega
      have hN : nval D < Bq ^ k := by
        refine Nat.lt_of_lt_of_le (nval_lt HD.out) ?_
        rw [show Bq ^ k = 10 ^ (9 * k) by rw [Nat.pow_mul]; rfl, ← HLL.out]
        exact Nat.pow_le_pow_right (by decide) (by omega)
      have HR1 := Lib.hid HO.out.rl
      have HF := Lib.hid (show Fresh w.heap.size (.slice A (nl (nval D)) c) from fun ad n' c' e => by
        injection e with e1 _ _
        have hg : (Value.slice A k c).ownBlock = some ad.block := by rw [e1]; rfl
        exact (HO.out.own.lt _ hg).1)
      have HR2 := Lib.hid hN
      have hk9 : k ≤ 9223372036854775807 := by have := HK.out; omega
      clear hN hlt
      go_wp2_with (go_at_call 63; refine (trimmed_any _ k c (nval D) _ HR1.out HR2.out hk9).mono ?_; rintro e w' ⟨rfl, rfl⟩)
      go_ret
      exact ⟨_, rfl, NL.trimmed HR1.out HR2.out, HO.out.below, HF.out⟩
    obtain ⟨e, he⟩ : ∃ e, e = l - 9 * k := ⟨_, rfl⟩
    have hez : (l : Int) - 9 * (k : Int) = (e : Int) := by omega
    rw [hez]
    have hpos : (e : Int) > 0 := by omega
    obtain ⟨a, ha⟩ : ∃ a, a = e - 9 := ⟨_, rfl⟩
    have k1 : IntKind.i64.wrap ((e : Int) - 9) = (e : Int) - 9 := IntWalk.i64_in _ (by omega)
    have k2 : max ((e : Int) - 9) 0 = (a : Int) := by omega
    obtain ⟨S, hS⟩ : ∃ S, S = (D.drop a).take (e - a) := ⟨_, rfl⟩
    have hex : (toB D).extract a e = toB S := by rw [toB_ext, hS]
    have hel : e + 9 * k = D.length := by rw [← HLL.out]; omega
    have hSl : S.length = e - a := by rw [hS, ha]; exact chunk_len hel
    have hSv : nval S = dg (nval D) k := by rw [hS, ha]; exact chunk_val HD.out hel
    have hSd : isDig S := by rw [hS]; exact fun c hc => HD.out c (List.mem_of_mem_drop (List.mem_of_mem_take hc))
    have HPU := Lib.hid (fun W => pu_any S W hSd (by omega) (by omega))
    rw [hSv] at HPU
    have hdB := dg_lt (nval D) k
    obtain ⟨d, hdd⟩ : ∃ d, d = dg (nval D) k := ⟨_, rfl⟩
    rw [← hdd] at HPU hdB
    have HDD := Lib.hid hdd
    have k3 : (d : Int) % 4294967296 = (d : Int) := Int.emod_eq_of_lt (by omega) (by unfold Bq at hdB; omega)
    have b1 : (a : Int) ≤ (e : Int) := by omega
    have b2 : (e : Int) ≤ (l : Int) := by omega
    have b3 : 0 ≤ (a : Int) := by omega
    have b4 : a ≤ e := by omega
    have b5 : e ≤ l := by omega
    have HEZ := Lib.hid hez
    have HKl := Lib.hid (show k + 1 ≤ maxLen ∧ (k + 1) * 4 ≤ 140737488355328 ∧ 9 * (k + 1) ≤ l + 8 by unfold maxLen; omega)
    clear hez he hel hS hSl hSv hSd hdd ha
    go_wp2_with fail
    refine (HPU.out _).mono ?_
    rintro e1 w2 ⟨rfl, hb2⟩
    have HO2 := Lib.hid (HO.out.keep hb2)
    have HOa := Lib.hid (HO2.out.own.alloc (.cells #[.int .u32 (d : Int)] 93))
    have HBa := Lib.hid (HO2.out.below.alloc HO2.out.below.size (.cells #[.int .u32 (d : Int)] 93))
    clear hb2 HO
    go_wp2_with (at_builtin; refine wpList_append_lies _ rfl _ _ 46 rfl w.heap.size 93 i0 (.int .u32 0) 1 4 Tryz.underlying46 hi hz0 hz1 hz2 rfl (by decide) _ k _ rfl HOa.out ⟨w2.heap.size, 0, none⟩ 1 1 [.int .u32 (d : Int)] rfl rfl (World.news_of_block (heap_alloc_new _ _)) (by intro u hu; simp at hu; subst hu; rfl) (by decide) HKl.out.1 HKl.out.2.1 HBa.out.size _ rfl ?_)
    intro g cap w6 hown6 hg6 _ _
    have HO6 := Lib.hid (show NO w (.slice (some ⟨g, 0, none⟩) (k + 1) cap) (k + 1) (nval D) w6 from ⟨by rw [limbs_succ, ← HDD.out]; exact hown6, HBa.out.grown hg6 HBa.out.size (fun g hg => (HOa.out.lt g hg).1)⟩)
    clear hown6 hg6
    go_wp2_with fail
    go_roundw
    case rel => exact ⟨k + 1, _, rfl, by rw [← HEZ.out]; congr 1; omega, Lib.hid HKl.out.2.2, HO6⟩
    case measure => simp [intOf]; omega
end Go.Proofs.YthodlgjfmddemaaGreatDoor.Rk
