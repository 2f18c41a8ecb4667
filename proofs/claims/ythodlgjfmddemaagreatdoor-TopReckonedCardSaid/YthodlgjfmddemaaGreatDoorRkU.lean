/- Numbers by limbs out of digits; powers of ten; the root. -/
import Derived.Test.YthodlgjfmddemaaGreatDoorRkT
namespace Go.Proofs.YthodlgjfmddemaaGreatDoor.Rk
open Go.RowKit

theorem toB_ext (a : List UInt8) (i j : Nat) : (toB a).extract i j = toB ((a.drop i).take (j - i)) := by
  apply ByteArray.ext
  rw [ByteArray.data_extract]
  simp [toB, List.take_drop]
theorem nval_cons (c : UInt8) (r : List UInt8) : nval (c :: r) = (c.toNat - 48) * 10 ^ r.length + nval r := by
  have := nval_append [c] r
  rw [List.singleton_append] at this
  rw [this]
  congr 2
  show 0 * 10 + (c.toNat - 48) = _
  omega
theorem parse_ok : ∀ (l : List UInt8) (acc : Nat), isDig l → acc * 10 ^ l.length + nval l ≤ 4294967295 → Lib.parseUintM 4294967295 acc l = .ok (acc * 10 ^ l.length + nval l)
  | [], acc, _, _ => by simp [Lib.parseUintM, nval_nil]
  | c :: r, acc, hd, h => by
    have hc := hd c List.mem_cons_self
    have hr : isDig r := fun d hd' => hd d (List.mem_cons_of_mem _ hd')
    have hv : acc * 10 ^ (c :: r).length + nval (c :: r) = (acc * 10 + (c.toNat - 48)) * 10 ^ r.length + nval r := by
      rw [nval_cons, List.length_cons, Nat.pow_succ, Nat.add_mul, Nat.mul_comm (10 ^ r.length) 10, ← Nat.mul_assoc, Nat.add_assoc]
    rw [hv] at h ⊢
    have h1 : acc * 10 + (c.toNat - 48) ≤ (acc * 10 + (c.toNat - 48)) * 10 ^ r.length := Nat.le_mul_of_pos_right _ (Nat.pow_pos (by decide))
    unfold Lib.parseUintM
    rw [if_pos hc, if_neg (by omega), if_neg (by omega), parse_ok r _ hr h]
/-- the chunk ahead of place e -/
theorem chunk_val {D : List UInt8} {k e : Nat} (hD : isDig D) (he : e + 9 * k = D.length) : nval ((D.drop (e - 9)).take (e - (e - 9))) = dg (nval D) k := by
  have hB : Bq ^ k = 10 ^ (9 * k) := by rw [Nat.pow_mul]; rfl
  have h1 : nval D = nval (D.take e) * 10 ^ (9 * k) + nval (D.drop e) := by
    conv => lhs; rw [← List.take_append_drop e D]
    rw [nval_append, List.length_drop]
    congr 3
    omega
  have hd : nval (D.drop e) < 10 ^ (9 * k) := by
    have := nval_lt (l := D.drop e) (fun c hc => hD c (List.mem_of_mem_drop hc))
    rw [List.length_drop] at this
    rwa [show D.length - e = 9 * k by omega] at this
  have h2 : nval D / Bq ^ k = nval (D.take e) := by
    rw [hB, h1, Nat.mul_comm, Nat.mul_add_div (Nat.pow_pos (by decide)), Nat.div_eq_of_lt hd, Nat.add_zero]
  unfold dg
  rw [h2]
  have hc : (D.drop (e - 9)).take (e - (e - 9)) = (D.take e).drop (e - 9) := by rw [List.drop_take]
  rw [hc]
  have h3 : nval (D.take e) = nval ((D.take e).take (e - 9)) * 10 ^ ((D.take e).drop (e - 9)).length + nval ((D.take e).drop (e - 9)) := by
    conv => lhs; rw [← List.take_append_drop (e - 9) (D.take e)]
    rw [nval_append]
  have hl : ((D.take e).drop (e - 9)).length = e - (e - 9) := by rw [List.length_drop, List.length_take]; omega
  have h4 := nval_lt (l := (D.take e).drop (e - 9)) (fun c hc => hD c (List.mem_of_mem_take (List.mem_of_mem_drop hc)))
  rw [hl] at h3 h4
  by_cases h9 : 9 ≤ e
  · rw [show e - (e - 9) = 9 by omega] at h3 h4
    have h10 : (10 : Nat) ^ 9 = Bq := rfl
    rw [h10] at h3 h4
    rw [h3, Nat.mul_comm, Nat.mul_add_mod, Nat.mod_eq_of_lt h4]
  · rw [show e - 9 = 0 by omega, List.drop_zero] at h4 ⊢
    refine (Nat.mod_eq_of_lt (Nat.lt_of_lt_of_le h4 ?_)).symm
    exact Nat.pow_le_pow_right (n := 10) (by decide) (by omega : e - (0) ≤ 9)
theorem chunk_len {D : List UInt8} {k e : Nat} (he : e + 9 * k = D.length) : ((D.drop (e - 9)).take (e - (e - 9))).length = e - (e - 9) := by
  rw [List.length_take, List.length_drop]; omega
theorem below_bytes (w : World) (e : TypeId) (s : ByteArray) : Below w.heap.size w (Lib.bytesWorld w e s) := by
  have h := (((Below.refl w.heap.size w).drew).alloc (Nat.le_refl _) (.cells (Lib.bytesCells w e s) e))
  exact Lib.below_freeze h (p := ⟨w.heap.size, (Lib.bytesCells w e s).size, none⟩) (Nat.le_refl _) 1
theorem pu_any (S : List UInt8) (w : World) (hd : isDig S) (h0 : 0 < S.length) (h9 : S.length ≤ 9) :
    Calls Tryz.prog 78 #[.string (toB S), .int .i64 10, .int .i64 32] w fun e w' => e = .returned (.tuple #[.int .u64 (nval S : Int), .nilIface]) ∧ Below w.heap.size w w' := by
  have hv := nval_lt hd
  have hv2 : 10 ^ S.length ≤ 10 ^ 9 := Nat.pow_le_pow_right (by decide) h9
  have hok : Lib.parseUintB 32 (toB S).data.toList = .ok (nval S) := by
    show Lib.parseUintB 32 S = _
    unfold Lib.parseUintB
    rw [if_neg (by intro e; rw [e] at h0; simp at h0)]
    have := parse_ok S 0 hd (by omega)
    rw [Nat.zero_mul, Nat.zero_add] at this
    exact this
  refine (Tryz.strconv_ParseUint_10_at32_ok (toB S) (by rw [toB_size]; omega) (nval S) hok w).mono ?_
  rintro e w' ⟨rfl, hw⟩
  refine ⟨rfl, ?_⟩
  rcases hw with rfl | rfl
  · exact Below.refl _ _
  · exact below_bytes _ _ _
/-- a list of limbs that is being built -/
structure NO (w : World) (vo : Value) (k N : Nat) (wr : World) : Prop where
  own : wr.ownsRow w.heap.size 93 1 vo k (limbs N k)
  below : Below w.heap.size w wr
theorem NO.start (w : World) (N : Nat) : NO w (.slice none 0 0) 0 N w := ⟨World.ownsRow_nil _ _ _ _, Below.refl _ _⟩
theorem NO.keep {w wr w' : World} {vo : Value} {k N : Nat} (h : NO w vo k N wr) (hb : Below wr.heap.size wr w') : NO w vo k N w' :=
  ⟨h.own.kept (row := none) ⟨hb.os, hb.tape, hb.output, hb.size, fun k hk _ => hb.block k hk⟩ (by cases vo.ownBlock <;> simp), h.below.trans (hb.mono h.below.size)⟩
theorem limbs_succ (z k : Nat) : limbs z (k + 1) = limbs z k ++ [.int .u32 (dg z k : Int)] := by simp [limbs, List.range_succ]
theorem NO.form {w wr : World} {vo : Value} {k N : Nat} (h : NO w vo k N wr) : ∃ A c, vo = .slice A k c := by
  rcases h.own.2 with ⟨rfl, h0⟩ | ⟨g, c, cur, rfl, _⟩
  · exact ⟨none, 0, by rw [h0]⟩
  · exact ⟨_, c, rfl⟩
theorem NO.rl {w wr : World} {A : Option Addr} {c k N : Nat} (h : NO w (.slice A k c) k N wr) : RL wr (.slice A k c) k N := by
  rcases h.own.2 with ⟨hn, h0⟩ | ⟨g, cap, cur, e, _, hh, hcap, _, _, ht⟩
  · injection hn with h1 h2 h3
    subst h1 h3
    exact ⟨none, 0, rfl, by omega, fun _ => rfl, fun hp => by omega⟩
  · have hg : (Value.slice A k c).ownBlock = some g := by rw [e]; rfl
    have hc := h.own.cells hg
    have hlt := (h.own.lt g hg).2
    injection e with e1 e2 e3
    subst e1 e3
    refine ⟨_, c, rfl, hcap, fun e => (by cases e), fun hp => ⟨g, 0, rfl, hlt, fun j hj => ?_⟩⟩
    have := hc j _ (limbs_at N k j hj)
    rwa [WideShapes.add_plain] at this
set_option maxRecDepth 100000 in
set_option maxHeartbeats 3200000 in
theorem naturalOf_any (D : List UInt8) (w : World) (hd : isDig D) (hl : D.length ≤ 140737488355328) :
    Calls Tryz.prog 50 #[.string (toB D)] w fun e w' => ∃ r, e = .returned r ∧ NL w' r (nval D) ∧ Below w.heap.size w w' := by
  have hsz := toB_size D
  obtain ⟨l, hll⟩ : ∃ l, l = D.length := ⟨_, rfl⟩
  rw [← hll] at hsz hl
  have HLL := Lib.hid hll
  have HD := Lib.hid hd
  obtain ⟨i0, hi, hz0, hz1, hz2⟩ := info_parts infoU32
  clear hll hd
  go_enter Tryz.func50, Tryz.ntmps50
  go_wp2_with fail
  go_loopw [3, 4] (fun s3 s4 wr => ∃ (k : Nat) (vo : Value), s3 = vo ∧ s4 = .int .i64 ((l : Int) - 9 * (k : Int)) ∧ Hid (9 * k ≤ l + 8) ∧ Hid (NO w vo k (nval D) wr)) (fun _ s4 _ => (intOf s4).toNat)
  case atStart => exact ⟨0, .slice none 0 0, rfl, by simp, Lib.hid (by omega), Lib.hid (NO.start _ _)⟩
  case round =>
    obtain ⟨k, vo, rfl, rfl, HK, HO⟩ := hrel
    obtain ⟨A, c, rfl⟩ := HO.out.form
    by_cases hlt : 9 * k < l
    case neg =>
      have hz : ¬ ((l : Int) - 9 * (k : Int) > 0) := by omega
      have hN : nval D < Bq ^ k := by
        refine Nat.lt_of_lt_of_le (nval_lt HD.out) ?_
        rw [show Bq ^ k = 10 ^ (9 * k) by rw [Nat.pow_mul]; rfl, ← HLL.out]
        exact Nat.pow_le_pow_right (by decide) (by omega)
      have HR1 := Lib.hid HO.out.rl
      have HR2 := Lib.hid hN
      have hk9 : k ≤ 9223372036854775807 := by have := HK.out; omega
      clear hN hlt
      go_wp2_with (go_at_call 63; refine (trimmed_any _ k c (nval D) _ HR1.out HR2.out hk9).mono ?_; rintro e w' ⟨rfl, rfl⟩)
      go_ret
      exact ⟨_, rfl, NL.trimmed HR1.out HR2.out, HO.out.below⟩
    obtain ⟨e, he⟩ : ∃ e, e = l - 9 * k := ⟨_, rfl⟩
    have hez : (l : Int) - 9 * (k : Int) = (e : Int) := by omega
    rw [hez]
    have hpos : (e : Int) > 0 := by omega
    obtain ⟨a, ha⟩ : ∃ a, a = e - 9 := ⟨_, rfl⟩
    have k1 : IntKind.i64.wrap ((e : Int) - 9) = (e : Int) - 9 := IntWalk.i64_in _ (by omega)
    have k2 : max ((e : Int) - 9) 0 = (a : Int) := by omega
    obtain ⟨S, hS⟩ : ∃ S, S = (D.drop a).take (e - a) := ⟨_, rfl⟩
    have hex : (toB D).extract a e = toB S := by rw [toB_ext, hS]
    have hel : e + 9 * k = D.length := by rw [← HLL.out]; omega
    have hSl : S.length = e - a := by rw [hS, ha]; exact chunk_len hel
    have hSv : nval S = dg (nval D) k := by rw [hS, ha]; exact chunk_val HD.out hel
    have hSd : isDig S := by rw [hS]; exact fun c hc => HD.out c (List.mem_of_mem_drop (List.mem_of_mem_take hc))
    have HPU := Lib.hid (fun W => pu_any S W hSd (by omega) (by omega))
    rw [hSv] at HPU
    have hdB := dg_lt (nval D) k
    obtain ⟨d, hdd⟩ : ∃ d, d = dg (nval D) k := ⟨_, rfl⟩
    rw [← hdd] at HPU hdB
    have HDD := Lib.hid hdd
    have k3 : (d : Int) % 4294967296 = (d : Int) := Int.emod_eq_of_lt (by omega) (by unfold Bq at hdB; omega)
    have b1 : (a : Int) ≤ (e : Int) := by omega
    have b2 : (e : Int) ≤ (l : Int) := by omega
    have b3 : 0 ≤ (a : Int) := by omega
    have b4 : a ≤ e := by omega
    have b5 : e ≤ l := by omega
    have HEZ := Lib.hid hez
    have HKl := Lib.hid (show k + 1 ≤ maxLen ∧ (k + 1) * 4 ≤ 140737488355328 ∧ 9 * (k + 1) ≤ l + 8 by unfold maxLen; omega)
    clear hez he hel hS hSl hSv hSd hdd ha
    go_wp2_with fail
    refine (HPU.out _).mono ?_
    rintro e1 w2 ⟨rfl, hb2⟩
    have HO2 := Lib.hid (HO.out.keep hb2)
    have HOa := Lib.hid (HO2.out.own.alloc (.cells #[.int .u32 (d : Int)] 93))
    have HBa := Lib.hid (HO2.out.below.alloc HO2.out.below.size (.cells #[.int .u32 (d : Int)] 93))
    clear hb2 HO
    go_wp2_with (at_builtin; refine wpList_append_lies _ rfl _ _ 46 rfl w.heap.size 93 i0 (.int .u32 0) 1 4 Tryz.underlying46 hi hz0 hz1 hz2 rfl (by decide) _ k _ rfl HOa.out ⟨w2.heap.size, 0, none⟩ 1 1 [.int .u32 (d : Int)] rfl rfl (World.news_of_block (heap_alloc_new _ _)) (by intro u hu; simp at hu; subst hu; rfl) (by decide) HKl.out.1 HKl.out.2.1 HBa.out.size _ rfl ?_)
    intro g cap w6 hown6 hg6 _ _
    have HO6 := Lib.hid (show NO w (.slice (some ⟨g, 0, none⟩) (k + 1) cap) (k + 1) (nval D) w6 from ⟨by rw [limbs_succ, ← HDD.out]; exact hown6, HBa.out.grown hg6 HBa.out.size (fun g hg => (HOa.out.lt g hg).1)⟩)
    clear hown6 hg6
    go_wp2_with fail
    go_roundw
    case rel => exact ⟨k + 1, _, rfl, by rw [← HEZ.out]; congr 1; omega, Lib.hid HKl.out.2.2, HO6⟩
    case measure => simp [intOf]; omega
set_option maxRecDepth 100000 in
set_option maxHeartbeats 1600000 in
theorem ten_any (n : Nat) (w : World) (hn : n ≤ 100000000) :
    Calls Tryz.prog 39 #[.int .i64 (n : Int)] w fun e w' => ∃ r, e = .returned r ∧ NL w' r (10 ^ n) ∧ Below w.heap.size w w' := by
  have hcat : ByteArray.mk #[49] ++ toB (List.replicate n 48) = toB (49 :: List.replicate n 48) := toB_app [49] _
  have hs1 : (toB (List.replicate n 48)).size = n := by rw [toB_size, List.length_replicate]
  have hnlt : ¬ 9223372036854775807 < 1 + n := by omega
  have hnv : nval (49 :: List.replicate n 48) = 10 ^ n := by
    rw [nval_cons, nval_zeros, List.length_replicate]
    show (49 - 48) * 10 ^ n + 0 = _
    omega
  have hd : isDig (49 :: List.replicate n 48) := fun c hc => by
    rcases List.mem_cons.1 hc with rfl | hc
    · decide
    · rw [List.eq_of_mem_replicate hc]; decide
  have HN := Lib.hid (fun W => naturalOf_any (49 :: List.replicate n 48) W hd (by simp; omega))
  rw [hnv] at HN
  have HR := Lib.hid (fun W => rep_any n W (by omega))
  generalize List.replicate n (48 : UInt8) = R at *
  clear hnv hd
  go_enter Tryz.func39, Tryz.ntmps39
  go_wp2_with fail
  refine (HR.out _).mono ?_
  rintro e w2 ⟨rfl, hb2⟩
  have HB2 := Lib.hid hb2
  clear hb2
  go_wp2_with fail
  refine (HN.out _).mono ?_
  rintro e w3 ⟨r, rfl, hr, hb3⟩
  have HB3 := Lib.hid (HB2.out.trans (hb3.mono HB2.out.size))
  have HR3 := Lib.hid hr
  clear hr hb3
  go_wp2_with fail
  go_ret
  exact ⟨r, rfl, HR3.out, HB3.out⟩
theorem nl_add {x y m : Nat} (hx : nl x ≤ m) (hy : nl y ≤ m) : nl (x + y) ≤ m + 1 := by
  have h1 := (lt_pow_iff m x).2 hx
  have h2 := (lt_pow_iff m y).2 hy
  refine (lt_pow_iff _ _).1 ?_
  rw [Nat.pow_succ]
  have : Bq ^ m * 2 ≤ Bq ^ m * Bq := Nat.mul_le_mul_left _ (by decide)
  omega
theorem nl_div {x y m : Nat} (hx : nl x ≤ m) : nl (x / y) ≤ m := Nat.le_trans (nl_mono (Nat.div_le_self _ _)) hx
theorem nl_ten (n : Nat) : nl (10 ^ n) ≤ n / 9 + 1 := by
  refine (lt_pow_iff _ _).1 ?_
  rw [show Bq ^ (n / 9 + 1) = 10 ^ (9 * (n / 9 + 1)) by rw [Nat.pow_mul]; rfl]
  exact Nat.pow_lt_pow_right (by decide) (by omega)
theorem nl_digs {x m : Nat} (h : (digs x).length ≤ 9 * m) : nl x ≤ m := by
  refine (lt_pow_iff _ _).1 ?_
  rw [show Bq ^ m = 10 ^ (9 * m) by rw [Nat.pow_mul]; rfl]
  exact (digs_len _ _).2 h
def RootP (x : Nat) (w : World) (e : Ending) (w' : World) : Prop := ∃ r R, e = .returned r ∧ NL w' r R ∧ R * R ≤ x ∧ Below w.heap.size w w'
set_option maxRecDepth 100000 in
set_option maxHeartbeats 3200000 in
theorem nroot_any (v : Value) (x : Nat) (w : World) (hv : NL w v x) (hp : Pow w) (hl : (digs x).length ≤ 9000) :
    Calls Tryz.prog 40 #[v] w (RootP x w) := by
  have hnx : nl x ≤ 1000 := nl_digs (by omega)
  obtain ⟨A, c, rfl, _, _⟩ := RL.form hv
  obtain ⟨Q, hQ⟩ : ∃ Q, RootP x w = Q := ⟨_, rfl⟩
  rw [hQ]
  have HQ := Lib.hid hQ
  have HV := Lib.hid hv
  clear hQ hv
  by_cases h0 : x = 0
  · have HF := Lib.hid (show RootP x w (.returned (.slice none 0 0)) w from ⟨_, 0, rfl, NL.zero _, Nat.zero_le _, Below.refl _ _⟩)
    have hz : nl x = 0 := nl_eq_zero.2 h0
    rw [hz]
    clear hz h0
    go_enter Tryz.func40, Tryz.ntmps40
    go_wp2_with fail
    rw [← HQ.out]
    exact HF.out
  · have hx0 : 0 < x := Nat.pos_of_ne_zero h0
    obtain ⟨n, hnn⟩ : ∃ n, n = nl x := ⟨_, rfl⟩
    have hnp : n ≠ 0 := by rw [hnn]; exact fun h => h0 (nl_eq_zero.1 h)
    have HN := Lib.hid hnn
    rw [← hnn] at hnx ⊢
    have hnb : ((n : Int) == 0) = false := beq_eq_false_iff_ne.2 (by omega)
    have hnz : ¬ (n : Int) = 0 := by omega
    obtain ⟨m, hm⟩ : ∃ m, m = (digs x).length := ⟨_, rfl⟩
    have hsz : (toB (digs x)).size = m := by rw [toB_size, hm]
    obtain ⟨t, ht⟩ : ∃ t, t = (m + 1) / 2 := ⟨_, rfl⟩
    have e1 : IntKind.i64.wrap ((m : Int) + 1) = (m : Int) + 1 := IntWalk.i64_in _ (by omega)
    have e2 : ((m : Int) + 1) / 2 = (t : Int) := by rw [ht]; rfl
    have e3 : ((m : Int) + 1).tdiv 2 = (t : Int) := by rw [ht]; rfl
    have e4 : IntKind.i64.wrap (t : Int) = (t : Int) := IntWalk.i64_in _ (by omega)
    have HD := Lib.hid (digits_any (.slice A n c) x w (by have := HV.out; rw [hnn]; exact this) hp (by omega) (by rw [← hnn]; omega))
    have HT := Lib.hid (fun W => ten_any t W (by omega))
    have hnt := nl_ten t
    have htb : t / 9 + 1 ≤ 600 := by omega
    have HNT := Lib.hid (Nat.le_trans hnt htb)
    have HV2 := Lib.hid (show NL w (.slice A n c) x by rw [hnn]; exact HV.out)
    generalize digs x = DX at *
    clear hnp hm ht hnt htb hnn h0 HV hp hl
    go_enter Tryz.func40, Tryz.ntmps40
    go_wp2_with fail
    refine HD.out.mono ?_
    rintro e w2 ⟨rfl, hb2⟩
    have HB2 := Lib.hid hb2
    clear hb2
    go_wp2_with fail
    refine (HT.out _).mono ?_
    rintro e w3 ⟨r, rfl, hr, hb3⟩
    have HB3 := Lib.hid (HB2.out.trans (hb3.mono HB2.out.size))
    have HR3 := Lib.hid hr
    clear hr hb3 HB2 HD HT
    go_wp2_with fail
    go_loopg [3] (10 ^ t) (fun k s3 wr => ∃ va, s3 = va ∧ Hid (NL wr va k) ∧ Hid (0 < k) ∧ Hid (nl k ≤ 600) ∧ Hid (Below w.heap.size w wr))
    case atStart => exact ⟨r, rfl, HR3, Lib.hid (Nat.pow_pos (by decide)), HNT, HB3⟩
    case round =>
      obtain ⟨va, hva, HK, HK0, HKn, HB⟩ := hrel
      obtain rfl := hva.symm
      have HX := Lib.hid (HV2.out.keep (HB.out.mono (Nat.le_refl _)))
      have HNX := Lib.hid (show nl x ≤ 1000 by rw [← HN.out]; exact hnx)
      go_wp2_with fail
      refine (divide_any _ _ x gk _ HX.out HK.out (by have := HNX.out; omega) (by have := HKn.out; omega) HK0.out).mono ?_
      rintro e w4 ⟨q, q2, rfl, hq, _, hb4⟩
      obtain ⟨Aq, cq, rfl, _, _⟩ := RL.form hq
      have HQq := Lib.hid hq
      have HB4 := Lib.hid hb4
      clear hq hb4
      go_wp2_with fail
      refine (plus_any _ _ gk (x / gk) _ (HK.out.keep HB4.out) HQq.out (by have := HKn.out; omega) (by have := nl_div (y := gk) HNX.out; omega)).mono ?_
      rintro e w5 ⟨s5, rfl, hs, hb5⟩
      have HS := Lib.hid hs
      have HB5 := Lib.hid (HB4.out.trans (hb5.mono HB4.out.size))
      have hsn : nl (gk + x / gk) ≤ 1001 := nl_add (by have := HKn.out; omega) (nl_div HNX.out)
      have HSn := Lib.hid hsn
      clear hs hb5 hsn
      go_wp2_with fail
      refine (short_any _ (gk + x / gk) 2 _ HS.out (by have := HSn.out; omega) (by decide) (by decide)).mono ?_
      rintro e w6 ⟨s6, rfl, hs6, hb6⟩
      have HS6 := Lib.hid hs6
      have HB6 := Lib.hid (HB5.out.trans (hb6.mono HB5.out.size))
      obtain ⟨m2, hm2⟩ : ∃ m2, m2 = (gk + x / gk) / 2 := ⟨_, rfl⟩
      rw [← hm2] at HS6
      have HM2 := Lib.hid hm2
      have hpos : 0 < m2 := by rw [hm2]; exact newton_pos hx0 HK0.out
      have HP2 := Lib.hid hpos
      clear hs6 hb6 hm2 hpos
      go_wp2_with fail
      have hm2n : nl m2 ≤ 1001 := by rw [HM2.out]; exact nl_div HSn.out
      refine (compare_any _ _ m2 gk _ HS6.out (HK.out.keep HB6.out) (by omega) (by have := HKn.out; omega)).mono ?_
      rintro e w7 ⟨k, q, rfl, hk1, _, hw7⟩
      have HB7 := Lib.hid (HB6.out.trans ((below_of_drewN hw7).mono HB6.out.size))
      have HS7 := Lib.hid (HS6.out.keep (below_of_drewN hw7))
      clear hw7 hm2n
      by_cases hlt : m2 < gk
      · have hk : ¬ k ≥ 0 := by have := hk1.2 hlt; omega
        have HLt := Lib.hid hlt
        have HB8 := Lib.hid (HB.out.trans (HB7.out.mono HB.out.size))
        have hm3 : nl m2 ≤ 600 := Nat.le_trans (nl_mono (Nat.le_of_lt hlt)) HKn.out
        have HM3 := Lib.hid hm3
        clear hk1 hlt hm3
        go_wp2_with fail
        go_roundg m2
        case measure => exact HLt.out
        case rel => exact ⟨_, rfl, HS7, HP2, HM3, HB8⟩
      · have hk : k ≥ 0 := by
          by_cases h : k < 0
          · exact absurd (hk1.1 h) hlt
          · omega
        have HF := Lib.hid (show RootP x w (.returned va) w7 from ⟨va, gk, rfl, HK.out.keep HB7.out, newton_end (by rw [← HM2.out]; omega), HB.out.trans (HB7.out.mono HB.out.size)⟩)
        clear hk1 hlt
        go_wp2_with fail
        rw [← HQ.out]
        exact HF.out
end Go.Proofs.YthodlgjfmddemaaGreatDoor.Rk
